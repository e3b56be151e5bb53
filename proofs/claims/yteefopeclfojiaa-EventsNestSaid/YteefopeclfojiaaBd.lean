/-
  A strings.Builder of the call's own: copyCheck, WriteString, String.
-/
import Derived.RangeFuncOwn
import Derived.Test.YteefopeclfojiaaSl
import Derived.Test.YteefopeclfojiaaU8Q
import Derived.Lib.Builder
import Derived.Lib.UnsafeStr
import Derived.Laws.Rows
namespace Go.Proofs.Yteefopeclfojiaa
open Go.RowKit
/-- the builder in block b holds the bytes xs, in the row v, above base. -/
structure BdAt (w : World) (b base : Nat) (v : Value) (xs : List Int) : Prop where
  blk : ∃ p, (p = .pointer none ∨ p = .pointer (some ⟨b, 0, none⟩)) ∧ w.heap[b]? = some (.cells #[p, v] 114 (0, 0))
  own : w.ownsRow base 5 1 v xs.length (xs.map (Value.int .u8))
  lt : b < base
theorem bdSize : (Try.prog.info? 114).map (·.size) = some 2 := by kernel_rfl
theorem bdLies : liesAt Try.prog Try.prog.depth 114 (2 / Try.prog.cellsOf 114) 0 114 1 = true := by kernel_rfl
set_option maxRecDepth 100000 in
theorem bd_fresh (b : Nat) (v : Value) (w : World) (hb : w.heap[b]? = some (.cells #[.pointer none, v] 114 (0, 0))) :
    Calls Try.prog 123 #[.pointer (some ⟨b, 0, none⟩)] w fun e w' => e = .returned (.tuple #[]) ∧ w' = w.setCell ⟨b, 0, none⟩ (.pointer (some ⟨b, 0, none⟩)) := by
  obtain ⟨j, hj, hjs⟩ := Option.map_eq_some_iff.1 bdSize
  have h0 : w.cell? ⟨b, 0, none⟩ = some (.pointer none) := by rw [cell_of_row w b 0 _ _ _ hb]; rfl
  have hsh : w.shape? b = some (114, 2) := by simp [World.shape?, hb]
  have hfz : w.frozen? ⟨b, 0, none⟩ = false := by simp [World.frozen?, hb]
  go_enter Try.func123, Try.ntmps123
  go_wp2
  rw [Lib.run_to_unsafe w ⟨b, 0, none⟩ Try.underlying111 Try.underlying138 hj (by rw [hjs]; decide) hsh (Nat.zero_lt_succ 1)]
  simp only [Result.andThen]
  rw [Oper.upon_value]
  go_wp2
  rw [run_callFunc_extern Try.func129 (by kernel_rfl) (by kernel_rfl) (by kernel_rfl) (e := Extern.AbiNoEscape.same) (by kernel_rfl)]
  rw [Lib.run_noEscape]
  simp only [Result.andThen]
  rw [Oper.upon_value]
  go_wp2
  rw [Lib.run_from_unsafe w ⟨b, 0, none⟩ Try.underlying138 Try.underlying111 hj hsh bdLies]
  simp only [Result.andThen]
  rw [Oper.upon_value]
  go_wp2
  go_end0
  exact ⟨rfl, rfl⟩
set_option maxRecDepth 100000 in
theorem bd_used (b : Nat) (v : Value) (w : World) (hb : w.heap[b]? = some (.cells #[.pointer (some ⟨b, 0, none⟩), v] 114 (0, 0))) :
    Calls Try.prog 123 #[.pointer (some ⟨b, 0, none⟩)] w fun e w' => e = .returned (.tuple #[]) ∧ w' = w := by
  obtain ⟨j, hj, hjs⟩ := Option.map_eq_some_iff.1 bdSize
  have h0 : w.cell? ⟨b, 0, none⟩ = some (.pointer (some ⟨b, 0, none⟩)) := by rw [cell_of_row w b 0 _ _ _ hb]; rfl
  go_enter Try.func123, Try.ntmps123
  go_wp2
  rw [Lib.run_neq_ptr_same w _ Try.underlying111 hj]
  simp only [Result.andThen]
  rw [Oper.upon_value]
  go_wp2
  go_end0
  exact ⟨rfl, rfl⟩
theorem bd_check (b : Nat) (p v : Value) (hp : p = .pointer none ∨ p = .pointer (some ⟨b, 0, none⟩)) (w : World) (hb : w.heap[b]? = some (.cells #[p, v] 114 (0, 0))) :
    Calls Try.prog 123 #[.pointer (some ⟨b, 0, none⟩)] w fun e w' => e = .returned (.tuple #[]) ∧ w'.heap[b]? = some (.cells #[.pointer (some ⟨b, 0, none⟩), v] 114 (0, 0)) ∧ w.grownBy w' (some b) := by
  rcases hp with rfl | rfl
  · refine (bd_fresh b v w hb).mono ?_
    rintro e w' ⟨rfl, rfl⟩
    refine ⟨rfl, ?_, ⟨rfl, rfl, rfl, by simp [World.setCell], fun k _ hne => Below.heap_setCell w ⟨b, 0, none⟩ _ k (fun e => hne (by rw [e]))⟩⟩
    rw [heap_setCell_same w b 0 _ _ _ hb]
    rfl
  · refine (bd_used b v w hb).mono ?_
    rintro e w' ⟨rfl, rfl⟩
    exact ⟨rfl, hb, World.grownBy.refl _ _⟩
theorem far_own {w w' : World} {base : Nat} {e : TypeId} {size : Nat} {v : Value} {n : Nat} {xs : List Value} (h : w.ownsRow base e size v n xs) {p : Nat} (hp : p < base) (hg : w.grownBy w' (some p)) : w'.ownsRow base e size v n xs := by
  refine h.kept hg ?_
  cases hv : v.ownBlock with
  | none => exact .inl rfl
  | some k =>
    refine .inr fun e => ?_
    injection e with e
    have := (h.lt k hv).1
    omega
/-- rows of other elements are other rows. -/
theorem rows_apart {w w' : World} {base base' : Nat} {e e' : TypeId} {size size' : Nat} {v v' : Value} {n n' : Nat} {xs xs' : List Value} (h : w.ownsRow base e size v n xs) (h' : w.ownsRow base' e' size' v' n' xs') (hne : e' ≠ e) (hg : w.grownBy w' v.ownBlock) : w'.ownsRow base' e' size' v' n' xs' := by
  refine h'.kept hg ?_
  rcases h'.2 with ⟨rfl, _⟩ | ⟨g', cap', cur', rfl, _, hg', _⟩
  · exact .inl rfl
  · refine .inr fun e0 => ?_
    rcases h.2 with ⟨rfl, _⟩ | ⟨g, cap, cur, rfl, _, hgb, _⟩
    · cases e0
    · injection e0 with e0
      subst e0
      rw [hg'] at hgb
      injection hgb with hgb
      injection hgb with _ h2 _
      exact hne h2
/-- the row's block is changed, and new ones are laid: seen from the rows of other elements above. -/
def Others (w w' : World) (b : Nat) : Prop := ∀ (base' : Nat) (e' : TypeId) (size' : Nat) (v' : Value) (n' : Nat) (xs' : List Value), e' ≠ 5 → b < base' → w.ownsRow base' e' size' v' n' xs' → w'.ownsRow base' e' size' v' n' xs'
set_option maxRecDepth 100000 in
theorem bd_write (b base : Nat) (v : Value) (xs : List Int) (s : ByteArray) (w : World) (h : BdAt w b base v xs) (hn : xs.length + s.size < 1099511627776) (hbase : base ≤ w.heap.size) :
    Calls Try.prog 97 #[.pointer (some ⟨b, 0, none⟩), .string s] w fun e w' => e = .returned (.tuple #[.int .i64 s.size, .nilIface]) ∧ (∃ v', BdAt w' b base v' (xs ++ nums s)) ∧ Below b w w' ∧ base ≤ w'.heap.size ∧ Others w w' b := by
  obtain ⟨p, hp, hb⟩ := h.blk
  have hlt := h.lt
  go_enter Try.func97, Try.ntmps97
  go_wp2_with fail
  refine (bd_check b p v hp w hb).mono ?_
  rintro e w1 ⟨rfl, hb1, hg1⟩
  have hown := far_own h.own hlt hg1
  have hs1 : base ≤ w1.heap.size := Nat.le_trans hbase hg1.size
  obtain ⟨v', w2, h1, h2, h3⟩ := app_str_g w1 base v xs.length xs hown s hn hs1
  have h4 := ownBelow hown h3 (Nat.le_refl _) hs1
  obtain ⟨va, vl, vc, rfl⟩ := own_slice hown
  obtain ⟨va', vl', vc', rfl⟩ := own_slice h2
  have hb2 := (h4.block b hlt).trans hb1
  have hc1 : w1.cell? ⟨b, 1, none⟩ = some (.slice va vl vc) := by rw [cell_of_row w1 b 1 _ _ _ hb1]; rfl
  have hc2 : w2.cell? ⟨b, 1, none⟩ = some (.slice va vl vc) := by rw [cell_of_row w2 b 1 _ _ _ hb2]; rfl
  have hf2 : w2.frozen? ⟨b, 1, none⟩ = false := by simp [World.frozen?, hb2]
  have hb3 := heap_setCell_same w2 b 1 _ _ (.slice va' vl' vc') hb2
  have hgr : w2.grownBy (w2.setCell ⟨b, 1, none⟩ (.slice va' vl' vc')) (some b) := ⟨rfl, rfl, rfl, by simp [World.setCell], fun k _ hne => Below.heap_setCell w2 ⟨b, 1, none⟩ _ k (fun e => hne (by rw [e]))⟩
  have hown3 := far_own h2 hlt hgr
  have HA := Lib.hid h1
  have OUT : (∃ v', BdAt (w2.setCell ⟨b, 1, none⟩ (.slice va' vl' vc')) b base v' (xs ++ nums s)) ∧ Below b w (w2.setCell ⟨b, 1, none⟩ (.slice va' vl' vc')) ∧ base ≤ (w2.setCell ⟨b, 1, none⟩ (.slice va' vl' vc')).heap.size ∧ Others w (w2.setCell ⟨b, 1, none⟩ (.slice va' vl' vc')) b := by
    refine ⟨⟨_, ⟨⟨_, .inr rfl, hb3⟩, ?_, hlt⟩⟩, ?_, Nat.le_trans (Nat.le_trans hs1 h4.size) hgr.size, ?_⟩
    · rw [List.length_append, nums_length, List.map_append]
      rw [← List.map_append]
      exact hown3
    · have hbA : Below b w w1 := ⟨hg1.os, hg1.tape, hg1.output, hg1.size, fun k hk => by
        rcases Nat.lt_or_ge k w.heap.size with h5 | h5
        · exact hg1.block k h5 (fun e => by injection e with e; omega)
        · omega⟩
      exact (hbA.trans (h4.mono (Nat.le_of_lt hlt))).setCell (p := ⟨b, 1, none⟩) (Nat.le_refl _) _
    · intro base' e' size' v0 n0 xs0 hne hbb hrow
      exact far_own (rows_apart hown (far_own hrow hbb hg1) hne h3) hbb hgr
  have HO := Lib.hid OUT
  clear h1 h2 h3 h4 hown hown3 hgr OUT h hb hb1 hb2 hb3
  go_wp2_with (at_builtin; refine wpList_append_run rfl _ _ _ _ rfl _ _ rfl rfl _ _ HA.out ?_)
  go_ret2
  exact ⟨rfl, HO.out⟩
theorem bd_string_nil (b base : Nat) (w : World) (h : BdAt w b base (.slice none 0 0) []) :
    Calls Try.prog 98 #[.pointer (some ⟨b, 0, none⟩)] w fun e w' => e = .returned (.string ⟨#[]⟩) ∧ Below b w w' ∧ Others w w' b ∧ KeepsOthers w w' ∧ w.grownBy w' none := by
  obtain ⟨p, hp, hb⟩ := h.blk
  have c1 : w.drew.cell? ⟨b, 1, none⟩ = some (.slice none 0 0) := by
    have : w.drew.heap[b]? = some (.cells #[p, .slice none 0 0] 114 (0, 0)) := hb
    rw [cell_of_row _ b 1 _ _ _ this]; rfl
  have hUS : ∀ W : World, (Builtin.unsafeString_ #[132, 3] 9 #[.pointer none, .int .i64 0]).run Try.prog W = .ok (.string .empty) W := fun W => Lib.run_unsafeString_none W _ _ _ _
  have hSD : (Builtin.unsafeSliceData_ #[112] 132 #[.slice none 0 0]).run Try.prog w.drew = .ok (.pointer none) w.drew := rfl
  have hb' := (Below.refl b w).drew
  clear h hb hp
  go_enter Try.func98, Try.ntmps98
  go_wp2
  go_region
  all_goals (go_wp2; go_ret; exact ⟨rfl, hb', fun _ _ _ _ _ _ _ _ hrow => hrow, ⟨Nat.le_refl _, fun _ _ h _ => h⟩, ⟨rfl, rfl, rfl, Nat.le_refl _, fun _ _ _ => rfl⟩⟩)
set_option maxRecDepth 100000 in
theorem bd_string (b base : Nat) (v : Value) (xs : List Int) (w : World) (h : BdAt w b base v xs) (hbs : isBs xs) (h0 : xs ≠ []) :
    Calls Try.prog 98 #[.pointer (some ⟨b, 0, none⟩)] w fun e w' => e = .returned (.string (strOfNums xs)) ∧ Below b w w' ∧ Others w w' b ∧ KeepsOthers w w' ∧ w.grownBy w' v.ownBlock := by
  obtain ⟨p, hp, hb⟩ := h.blk
  have hown := h.own
  have hl0 : xs.length ≠ 0 := by simpa using h0
  obtain ⟨l, hl, hret⟩ : ∃ l : List UInt8, xs = l.map (fun c => (c.toNat : Int)) ∧ (⟨l.toArray⟩ : ByteArray) = strOfNums xs := ⟨(strOfNums xs).data.toList, (nums_strOfNums xs hbs).symm, by simp⟩
  have hll : l.length = xs.length := by rw [hl, List.length_map]
  have hln : l ≠ [] := by
    intro e
    rw [e] at hll
    exact hl0 hll.symm
  obtain ⟨g, cap, cur, rfl, hbg, hg, hnc, hcm, hcs, htake⟩ : ∃ g cap cur, v = .slice (some ⟨g, 0, none⟩) xs.length cap ∧ base ≤ g ∧ w.heap[g]? = some (.cells cur 5 (0, 0)) ∧ xs.length ≤ cap ∧ cap ≤ maxLen ∧ cur.size = cap * 1 ∧ cur.toList.take (xs.length * 1) = xs.map (Value.int .u8) := by
    rcases hown.2 with ⟨_, hz⟩ | ⟨g, cap, cur, hv, r⟩
    · exact absurd hz hl0
    · exact ⟨g, cap, cur, hv, r⟩
  have hlt := h.lt
  have c1 : w.drew.cell? ⟨b, 1, none⟩ = some (.slice (some ⟨g, 0, none⟩) xs.length cap) := by
    have : w.drew.heap[b]? = some (.cells #[p, .slice (some ⟨g, 0, none⟩) xs.length cap] 114 (0, 0)) := hb
    rw [cell_of_row _ b 1 _ _ _ this]; rfl
  have hSD : (Builtin.unsafeSliceData_ #[112] 132 #[.slice (some ⟨g, 0, none⟩) xs.length cap]).run Try.prog w.drew = .ok (.pointer (some ⟨g, 0, none⟩)) w.drew :=
    Lib.run_unsafeSliceData_row _ _ _ _ _ _ (by omega)
  have hUS : (Builtin.unsafeString_ #[132, 3] 9 #[.pointer (some ⟨g, 0, none⟩), .int .i64 xs.length]).run Try.prog w.drew = .ok (.string (strOfNums xs)) (w.drew.freeze ⟨g, 0, none⟩ xs.length) := by
    rw [← hret, ← hll]
    refine Lib.run_unsafeString_row w.drew 132 3 9 5 Try.underlying132 (by kernel_rfl) g cur.size (by have hg' : w.drew.heap[g]? = some (.cells cur 5 (0, 0)) := hg; simp [World.shape?, hg']) l hln (by omega) (by unfold maxLen at hcm; omega) ?_
    intro j x hx
    exact hown.cells (g := g) rfl j (.int .u8 x.toNat) (by rw [hl, List.getElem?_map, List.getElem?_map, hx]; rfl)
  have hb' : Below b w (w.drew.freeze ⟨g, 0, none⟩ xs.length) := by
    unfold World.freeze
    rw [if_neg hl0]
    exact ⟨rfl, rfl, rfl, by simp [World.drew, -World.drew_eq], fun k hk => by
      have : g ≠ k := by omega
      simp [World.drew, -World.drew_eq, Array.getElem?_modify, this]⟩
  have hgr : w.grownBy (w.drew.freeze ⟨g, 0, none⟩ xs.length) (some g) := by
    unfold World.freeze
    rw [if_neg hl0]
    exact ⟨rfl, rfl, rfl, by simp [World.drew, -World.drew_eq], fun k _ hne => by
      have : g ≠ k := fun e => hne (by rw [e])
      simp [World.drew, -World.drew_eq, Array.getElem?_modify, this]⟩
  have hoth : Others w (w.drew.freeze ⟨g, 0, none⟩ xs.length) b := fun base' e' size' v0 n0 xs0 hne _ hrow => rows_apart hown hrow hne hgr
  have hko : KeepsOthers w (w.drew.freeze ⟨g, 0, none⟩ xs.length) := KeepsOthers.of_grownBy hgr fun j o e hj => by
    injection e with e
    subst e
    rw [hg] at hj
    cases hj
    rfl
  have HB := Lib.hid (And.intro hb' (And.intro hoth (And.intro hko (show w.grownBy (w.drew.freeze ⟨g, 0, none⟩ xs.length) (Value.slice (some ⟨g, 0, none⟩) xs.length cap).ownBlock from hgr))))
  clear h hb hp hown hb' hgr hoth hko htake hcs hg hret hl hll hln
  go_enter Try.func98, Try.ntmps98
  go_wp2
  go_region
  all_goals (go_wp2; go_ret; exact ⟨rfl, HB.out⟩)
end Go.Proofs.Yteefopeclfojiaa
