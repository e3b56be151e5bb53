/-
  Parts Bd UtB UtC UtL UtM UtN UtR of this seat's texts, in one file: contracts of functions that the law reaches, and the plain laws behind them. No condition.
-/
import Derived.RangeFuncOwn
import Derived.Test.YthahfoliblgegaaGreatDoorG2
import Derived.Test.YthahfoliblgegaaGreatDoorG1
import Derived.Lib.Builder
import Derived.Lib.UnsafeStr
import Derived.Laws.Rows
import Derived.Test.YthahfoliblgegaaGreatDoorG3
import Derived.Deep.Cut
import Derived.Deep.AppendLies
/- 
  A strings.Builder of the call's own: copyCheck, WriteString, String.
 -/
namespace Go.Proofs.YthahfoliblgegaaGreatDoor
open Go.RowKit
/-- the builder in block b holds the bytes xs, in the row v, above base. -/
structure BdAt (w : World) (b base : Nat) (v : Value) (xs : List Int) : Prop where
  blk : ∃ p, (p = .pointer none ∨ p = .pointer (some ⟨b, 0, none⟩)) ∧ w.heap[b]? = some (.cells #[p, v] 149 (0, 0))
  own : w.ownsRow base 5 1 v xs.length (xs.map (Value.int .u8))
  lt : b < base
theorem bdSize : (Tryz.prog.info? 149).map (·.size) = some 2 := by kernel_rfl
theorem bdLies : liesAt Tryz.prog Tryz.prog.depth 149 (2 / Tryz.prog.cellsOf 149) 0 149 1 = true := by kernel_rfl
set_option maxRecDepth 100000 in
theorem bd_fresh (b : Nat) (v : Value) (w : World) (hb : w.heap[b]? = some (.cells #[.pointer none, v] 149 (0, 0))) :
    Calls Tryz.prog 146 #[.pointer (some ⟨b, 0, none⟩)] w fun e w' => e = .returned (.tuple #[]) ∧ w' = w.setCell ⟨b, 0, none⟩ (.pointer (some ⟨b, 0, none⟩)) := by
  obtain ⟨j, hj, hjs⟩ := Option.map_eq_some_iff.1 bdSize
  have h0 : w.cell? ⟨b, 0, none⟩ = some (.pointer none) := by rw [cell_of_row w b 0 _ _ _ hb]; rfl
  have hsh : w.shape? b = some (149, 2) := by simp [World.shape?, hb]
  have hfz : w.frozen? ⟨b, 0, none⟩ = false := by simp [World.frozen?, hb]
  go_enter Tryz.func146, Tryz.ntmps146
  go_wp2
  rw [Lib.run_to_unsafe w ⟨b, 0, none⟩ Tryz.underlying147 Tryz.underlying185 hj (by rw [hjs]; decide) hsh (Nat.zero_lt_succ 1)]
  simp only [Result.andThen]
  rw [Oper.upon_value]
  go_wp2
  rw [run_callFunc_extern Tryz.func161 (by kernel_rfl) (by kernel_rfl) (by kernel_rfl) (e := Extern.AbiNoEscape.same) (by kernel_rfl)]
  rw [Lib.run_noEscape]
  simp only [Result.andThen]
  rw [Oper.upon_value]
  go_wp2
  rw [Lib.run_from_unsafe w ⟨b, 0, none⟩ Tryz.underlying185 Tryz.underlying147 hj hsh bdLies]
  simp only [Result.andThen]
  rw [Oper.upon_value]
  go_wp2
  go_end0
  exact ⟨rfl, rfl⟩
set_option maxRecDepth 100000 in
theorem bd_used (b : Nat) (v : Value) (w : World) (hb : w.heap[b]? = some (.cells #[.pointer (some ⟨b, 0, none⟩), v] 149 (0, 0))) :
    Calls Tryz.prog 146 #[.pointer (some ⟨b, 0, none⟩)] w fun e w' => e = .returned (.tuple #[]) ∧ w' = w := by
  obtain ⟨j, hj, hjs⟩ := Option.map_eq_some_iff.1 bdSize
  have h0 : w.cell? ⟨b, 0, none⟩ = some (.pointer (some ⟨b, 0, none⟩)) := by rw [cell_of_row w b 0 _ _ _ hb]; rfl
  go_enter Tryz.func146, Tryz.ntmps146
  go_wp2
  rw [Lib.run_neq_ptr_same w _ Tryz.underlying147 hj]
  simp only [Result.andThen]
  rw [Oper.upon_value]
  go_wp2
  go_end0
  exact ⟨rfl, rfl⟩
theorem bd_check (b : Nat) (p v : Value) (hp : p = .pointer none ∨ p = .pointer (some ⟨b, 0, none⟩)) (w : World) (hb : w.heap[b]? = some (.cells #[p, v] 149 (0, 0))) :
    Calls Tryz.prog 146 #[.pointer (some ⟨b, 0, none⟩)] w fun e w' => e = .returned (.tuple #[]) ∧ w'.heap[b]? = some (.cells #[.pointer (some ⟨b, 0, none⟩), v] 149 (0, 0)) ∧ w.grownBy w' (some b) := by
  rcases hp with rfl | rfl
  · refine (bd_fresh b v w hb).mono ?_
    rintro e w' ⟨rfl, rfl⟩
    refine ⟨rfl, ?_, ⟨rfl, rfl, rfl, by simp [World.setCell], fun k _ hne => Below.heap_setCell w ⟨b, 0, none⟩ _ k (fun e => hne (by rw [e]))⟩⟩
    rw [heap_setCell_same w b 0 _ _ _ hb]
    rfl
  · refine (bd_used b v w hb).mono ?_
    rintro e w' ⟨rfl, rfl⟩
    exact ⟨rfl, hb, World.grownBy.refl _ _⟩
theorem far_own {w w' : World} {base : Nat} {e : TypeId} {size : Nat} {v : Value} {n : Nat} {xs : List Value} (h : w.ownsRow base e size v n xs) {p : Nat} (hp : p < base) (hg : w.grownBy w' (some p)) : w'.ownsRow base e size v n xs := by
  refine h.kept hg ?_
  cases hv : v.ownBlock with
  | none => exact .inl rfl
  | some k =>
    refine .inr fun e => ?_
    injection e with e
    have := (h.lt k hv).1
    omega
/-- rows of other elements are other rows. -/
theorem rows_apart {w w' : World} {base base' : Nat} {e e' : TypeId} {size size' : Nat} {v v' : Value} {n n' : Nat} {xs xs' : List Value} (h : w.ownsRow base e size v n xs) (h' : w.ownsRow base' e' size' v' n' xs') (hne : e' ≠ e) (hg : w.grownBy w' v.ownBlock) : w'.ownsRow base' e' size' v' n' xs' := by
  refine h'.kept hg ?_
  rcases h'.2 with ⟨rfl, _⟩ | ⟨g', cap', cur', rfl, _, hg', _⟩
  · exact .inl rfl
  · refine .inr fun e0 => ?_
    rcases h.2 with ⟨rfl, _⟩ | ⟨g, cap, cur, rfl, _, hgb, _⟩
    · cases e0
    · injection e0 with e0
      subst e0
      rw [hg'] at hgb
      injection hgb with hgb
      injection hgb with _ h2 _
      exact hne h2
/-- the row's block is changed, and new ones are laid: seen from the rows of other elements above. -/
def Others (w w' : World) (b : Nat) : Prop := ∀ (base' : Nat) (e' : TypeId) (size' : Nat) (v' : Value) (n' : Nat) (xs' : List Value), e' ≠ 5 → b < base' → w.ownsRow base' e' size' v' n' xs' → w'.ownsRow base' e' size' v' n' xs'
set_option maxRecDepth 100000 in
theorem bd_write (b base : Nat) (v : Value) (xs : List Int) (s : ByteArray) (w : World) (h : BdAt w b base v xs) (hn : xs.length + s.size < 1099511627776) (hbase : base ≤ w.heap.size) :
    Calls Tryz.prog 120 #[.pointer (some ⟨b, 0, none⟩), .string s] w fun e w' => e = .returned (.tuple #[.int .i64 s.size, .nilIface]) ∧ (∃ v', BdAt w' b base v' (xs ++ nums s)) ∧ Below b w w' ∧ base ≤ w'.heap.size ∧ Others w w' b := by
  obtain ⟨p, hp, hb⟩ := h.blk
  have hlt := h.lt
  go_enter Tryz.func120, Tryz.ntmps120
  go_wp2_with fail
  refine (bd_check b p v hp w hb).mono ?_
  rintro e w1 ⟨rfl, hb1, hg1⟩
  have hown := far_own h.own hlt hg1
  have hs1 : base ≤ w1.heap.size := Nat.le_trans hbase hg1.size
  obtain ⟨v', w2, h1, h2, h3⟩ := app_str_g w1 base v xs.length xs hown s hn hs1
  have h4 := ownBelow hown h3 (Nat.le_refl _) hs1
  obtain ⟨va, vl, vc, rfl⟩ := own_slice hown
  obtain ⟨va', vl', vc', rfl⟩ := own_slice h2
  have hb2 := (h4.block b hlt).trans hb1
  have hc1 : w1.cell? ⟨b, 1, none⟩ = some (.slice va vl vc) := by rw [cell_of_row w1 b 1 _ _ _ hb1]; rfl
  have hc2 : w2.cell? ⟨b, 1, none⟩ = some (.slice va vl vc) := by rw [cell_of_row w2 b 1 _ _ _ hb2]; rfl
  have hf2 : w2.frozen? ⟨b, 1, none⟩ = false := by simp [World.frozen?, hb2]
  have hb3 := heap_setCell_same w2 b 1 _ _ (.slice va' vl' vc') hb2
  have hgr : w2.grownBy (w2.setCell ⟨b, 1, none⟩ (.slice va' vl' vc')) (some b) := ⟨rfl, rfl, rfl, by simp [World.setCell], fun k _ hne => Below.heap_setCell w2 ⟨b, 1, none⟩ _ k (fun e => hne (by rw [e]))⟩
  have hown3 := far_own h2 hlt hgr
  have HA := Lib.hid h1
  have OUT : (∃ v', BdAt (w2.setCell ⟨b, 1, none⟩ (.slice va' vl' vc')) b base v' (xs ++ nums s)) ∧ Below b w (w2.setCell ⟨b, 1, none⟩ (.slice va' vl' vc')) ∧ base ≤ (w2.setCell ⟨b, 1, none⟩ (.slice va' vl' vc')).heap.size ∧ Others w (w2.setCell ⟨b, 1, none⟩ (.slice va' vl' vc')) b := by
    refine ⟨⟨_, ⟨⟨_, .inr rfl, hb3⟩, ?_, hlt⟩⟩, ?_, Nat.le_trans (Nat.le_trans hs1 h4.size) hgr.size, ?_⟩
    · rw [List.length_append, nums_length, List.map_append]
      rw [← List.map_append]
      exact hown3
    · have hbA : Below b w w1 := ⟨hg1.os, hg1.tape, hg1.output, hg1.size, fun k hk => by
        rcases Nat.lt_or_ge k w.heap.size with h5 | h5
        · exact hg1.block k h5 (fun e => by injection e with e; omega)
        · omega⟩
      exact (hbA.trans (h4.mono (Nat.le_of_lt hlt))).setCell (p := ⟨b, 1, none⟩) (Nat.le_refl _) _
    · intro base' e' size' v0 n0 xs0 hne hbb hrow
      exact far_own (rows_apart hown (far_own hrow hbb hg1) hne h3) hbb hgr
  have HO := Lib.hid OUT
  clear h1 h2 h3 h4 hown hown3 hgr OUT h hb hb1 hb2 hb3
  go_wp2_with (at_builtin; refine wpList_append_run rfl _ _ _ _ rfl _ _ rfl rfl _ _ HA.out ?_)
  go_ret2
  exact ⟨rfl, HO.out⟩
theorem bd_string_nil (b base : Nat) (w : World) (h : BdAt w b base (.slice none 0 0) []) :
    Calls Tryz.prog 122 #[.pointer (some ⟨b, 0, none⟩)] w fun e w' => e = .returned (.string ⟨#[]⟩) ∧ Below b w w' ∧ Others w w' b ∧ KeepsOthers w w' ∧ w.grownBy w' none := by
  obtain ⟨p, hp, hb⟩ := h.blk
  have c1 : w.drew.cell? ⟨b, 1, none⟩ = some (.slice none 0 0) := by
    have : w.drew.heap[b]? = some (.cells #[p, .slice none 0 0] 149 (0, 0)) := hb
    rw [cell_of_row _ b 1 _ _ _ this]; rfl
  have hUS : ∀ W : World, (Builtin.unsafeString_ #[170, 3] 9 #[.pointer none, .int .i64 0]).run Tryz.prog W = .ok (.string .empty) W := fun W => Lib.run_unsafeString_none W _ _ _ _
  have hSD : (Builtin.unsafeSliceData_ #[104] 170 #[.slice none 0 0]).run Tryz.prog w.drew = .ok (.pointer none) w.drew := rfl
  have hb' := (Below.refl b w).drew
  clear h hb hp
  go_enter Tryz.func122, Tryz.ntmps122
  go_wp2
  go_region
  all_goals (go_wp2; go_ret; exact ⟨rfl, hb', fun _ _ _ _ _ _ _ _ hrow => hrow, ⟨Nat.le_refl _, fun _ _ h _ => h⟩, ⟨rfl, rfl, rfl, Nat.le_refl _, fun _ _ _ => rfl⟩⟩)
set_option maxRecDepth 100000 in
theorem bd_string (b base : Nat) (v : Value) (xs : List Int) (w : World) (h : BdAt w b base v xs) (hbs : isBs xs) (h0 : xs ≠ []) :
    Calls Tryz.prog 122 #[.pointer (some ⟨b, 0, none⟩)] w fun e w' => e = .returned (.string (strOfNums xs)) ∧ Below b w w' ∧ Others w w' b ∧ KeepsOthers w w' ∧ w.grownBy w' v.ownBlock := by
  obtain ⟨p, hp, hb⟩ := h.blk
  have hown := h.own
  have hl0 : xs.length ≠ 0 := by simpa using h0
  obtain ⟨l, hl, hret⟩ : ∃ l : List UInt8, xs = l.map (fun c => (c.toNat : Int)) ∧ (⟨l.toArray⟩ : ByteArray) = strOfNums xs := ⟨(strOfNums xs).data.toList, (nums_strOfNums xs hbs).symm, by simp⟩
  have hll : l.length = xs.length := by rw [hl, List.length_map]
  have hln : l ≠ [] := by
    intro e
    rw [e] at hll
    exact hl0 hll.symm
  obtain ⟨g, cap, cur, rfl, hbg, hg, hnc, hcm, hcs, htake⟩ : ∃ g cap cur, v = .slice (some ⟨g, 0, none⟩) xs.length cap ∧ base ≤ g ∧ w.heap[g]? = some (.cells cur 5 (0, 0)) ∧ xs.length ≤ cap ∧ cap ≤ maxLen ∧ cur.size = cap * 1 ∧ cur.toList.take (xs.length * 1) = xs.map (Value.int .u8) := by
    rcases hown.2 with ⟨_, hz⟩ | ⟨g, cap, cur, hv, r⟩
    · exact absurd hz hl0
    · exact ⟨g, cap, cur, hv, r⟩
  have hlt := h.lt
  have c1 : w.drew.cell? ⟨b, 1, none⟩ = some (.slice (some ⟨g, 0, none⟩) xs.length cap) := by
    have : w.drew.heap[b]? = some (.cells #[p, .slice (some ⟨g, 0, none⟩) xs.length cap] 149 (0, 0)) := hb
    rw [cell_of_row _ b 1 _ _ _ this]; rfl
  have hSD : (Builtin.unsafeSliceData_ #[104] 170 #[.slice (some ⟨g, 0, none⟩) xs.length cap]).run Tryz.prog w.drew = .ok (.pointer (some ⟨g, 0, none⟩)) w.drew :=
    Lib.run_unsafeSliceData_row _ _ _ _ _ _ (by omega)
  have hUS : (Builtin.unsafeString_ #[170, 3] 9 #[.pointer (some ⟨g, 0, none⟩), .int .i64 xs.length]).run Tryz.prog w.drew = .ok (.string (strOfNums xs)) (w.drew.freeze ⟨g, 0, none⟩ xs.length) := by
    rw [← hret, ← hll]
    refine Lib.run_unsafeString_row w.drew 170 3 9 5 Tryz.underlying170 (by kernel_rfl) g cur.size (by have hg' : w.drew.heap[g]? = some (.cells cur 5 (0, 0)) := hg; simp [World.shape?, hg']) l hln (by omega) (by unfold maxLen at hcm; omega) ?_
    intro j x hx
    exact hown.cells (g := g) rfl j (.int .u8 x.toNat) (by rw [hl, List.getElem?_map, List.getElem?_map, hx]; rfl)
  have hb' : Below b w (w.drew.freeze ⟨g, 0, none⟩ xs.length) := by
    unfold World.freeze
    rw [if_neg hl0]
    exact ⟨rfl, rfl, rfl, by simp [World.drew, -World.drew_eq], fun k hk => by
      have : g ≠ k := by omega
      simp [World.drew, -World.drew_eq, Array.getElem?_modify, this]⟩
  have hgr : w.grownBy (w.drew.freeze ⟨g, 0, none⟩ xs.length) (some g) := by
    unfold World.freeze
    rw [if_neg hl0]
    exact ⟨rfl, rfl, rfl, by simp [World.drew, -World.drew_eq], fun k _ hne => by
      have : g ≠ k := fun e => hne (by rw [e])
      simp [World.drew, -World.drew_eq, Array.getElem?_modify, this]⟩
  have hoth : Others w (w.drew.freeze ⟨g, 0, none⟩ xs.length) b := fun base' e' size' v0 n0 xs0 hne _ hrow => rows_apart hown hrow hne hgr
  have hko : KeepsOthers w (w.drew.freeze ⟨g, 0, none⟩ xs.length) := KeepsOthers.of_grownBy hgr fun j o e hj => by
    injection e with e
    subst e
    rw [hg] at hj
    cases hj
    rfl
  have HB := Lib.hid (And.intro hb' (And.intro hoth (And.intro hko (show w.grownBy (w.drew.freeze ⟨g, 0, none⟩ xs.length) (Value.slice (some ⟨g, 0, none⟩) xs.length cap).ownBlock from hgr))))
  clear h hb hp hown hb' hgr hoth hko htake hcs hg hret hl hll hln
  go_enter Tryz.func122, Tryz.ntmps122
  go_wp2
  go_region
  all_goals (go_wp2; go_ret; exact ⟨rfl, HB.out⟩)
end Go.Proofs.YthahfoliblgegaaGreatDoor
/- 
  The walk of utf16.Decode.
 -/
namespace Go.Proofs.YthahfoliblgegaaGreatDoor
open Go.RowKit
theorem u16_and1023 (n : Int) (h0 : 0 ≤ n) (h1 : n < 65536) : bits .and .u16 n 1023 = n % 1024 := by
  have key : (BitVec.ofInt 16 n &&& BitVec.ofInt 16 1023).toNat = n.toNat % 1024 := by
    have e : (BitVec.ofInt 16 1023).toNat = 2 ^ 10 - 1 := by decide
    rw [BitVec.toNat_and, BitVec.toNat_ofInt, e, Nat.and_two_pow_sub_one_eq_mod]
    congr 1
    omega
  show IntKind.u16.wrap ((BitVec.ofInt 16 n &&& BitVec.ofInt 16 1023).toNat : Nat) = n % 1024
  rw [key, IntKind.wrap_u16]
  omega
/-- within Decode: the builder in block b holds the text of out, the row vb the places bad. -/
structure DIn (w wr : World) (b : Nat) (out : List Int) (v : Value) (bad : List Int) (vb : Value) : Prop where
  bd : BdAt wr b (b + 1) v (encAll out)
  own : wr.ownsRow (b + 1) 3 1 vb bad.length (bad.map (Value.int .i64))
  bl : Below b w wr
  nil : out = [] → v = .slice none 0 0
  sz : b + 1 ≤ wr.heap.size
  sc : scAll out = true
theorem BdAt.below {w w' : World} {b base : Nat} {v : Value} {xs : List Int} (h : BdAt w b base v xs) (hs : base ≤ w.heap.size) (hb : Below w.heap.size w w') : BdAt w' b base v xs := by
  obtain ⟨p, hp, hbk⟩ := h.blk
  have := h.lt
  exact ⟨⟨p, hp, (hb.block b (by omega)).trans hbk⟩, own_below h.own hb (Nat.le_refl _), h.lt⟩
theorem DIn.below {w wr wx : World} {b : Nat} {out : List Int} {v : Value} {bad : List Int} {vb : Value} (q : DIn w wr b out v bad vb) (hb : Below wr.heap.size wr wx) : DIn w wx b out v bad vb :=
  ⟨q.bd.below q.sz hb, own_below q.own hb (Nat.le_refl _), q.bl.trans (hb.mono (by have := q.sz; omega)), q.nil, Nat.le_trans q.sz hb.size, q.sc⟩
theorem DIn.dn {w wr : World} {b : Nat} {out : List Int} {v : Value} {bad : List Int} {vb : Value} (q : DIn w wr b out v bad vb) (n : Nat) : DIn w (wr.drewN n) b out v bad vb :=
  q.below ⟨rfl, rfl, rfl, Nat.le_refl _, fun _ _ => rfl⟩
theorem DIn.wrong {w wr : World} {b : Nat} {out : List Int} {v : Value} {bad : List Int} {vb : Value} (q : DIn w wr b out v bad vb) (x : Int) (hn : bad.length ≤ 1000000) :
    ∃ vb' w', (Builtin.append_ #[60, 60] 60 #[vb, .slice (some ⟨wr.heap.size, 0, none⟩) 1 1]).run Tryz.prog (wr.alloc (.cells #[.int .i64 x] 3)) = .ok vb' w' ∧ DIn w w' b out v (bad ++ [x]) vb' := by
  obtain ⟨vb', w', h1, h2, h3⟩ := app_int_g wr (b + 1) vb bad.length bad q.own x (by omega) q.sz
  have hba := (Below.refl wr.heap.size wr).alloc (Nat.le_refl _) (.cells #[.int .i64 x] 3)
  have q1 := q.below hba
  have hown1 := q1.own
  have hb4 := ownBelow hown1 h3 (Nat.le_refl _) q1.sz
  obtain ⟨p, hp, hbk⟩ := q1.bd.blk
  refine ⟨vb', w', h1, ⟨⟨⟨p, hp, (hb4.block b (Nat.lt_succ_self b)).trans hbk⟩, rows_apart hown1 q1.bd.own (by decide) h3, Nat.lt_succ_self b⟩, ?_, q1.bl.trans (hb4.mono (Nat.le_succ b)), q.nil, Nat.le_trans q1.sz hb4.size, q.sc⟩⟩
  rw [List.length_append]
  exact h2
theorem nums_encS (r : Int) : nums (encS r) = encN r := encS_nums r
theorem utf16_dput (r : Int) (hr : isSc r = true) (w wr : World) (b : Nat) (out : List Int) (v : Value) (bad : List Int) (vb : Value) (q : DIn w wr b out v bad vb) (hn : out.length ≤ 1000000) :
    Calls Tryz.prog 119 #[.int .i64 r, .pointer (some ⟨b, 0, none⟩)] wr fun e w' => e = .returned (.tuple #[]) ∧ ∃ v', DIn w w' b (out ++ [r]) v' bad vb := by
  have hl := encAll_len out
  have hl2 := encN_len r
  go_enter Tryz.func119, Tryz.ntmps119
  go_wp2_with fail
  refine (utf8_Put r _).mono ?_
  rintro e w1 ⟨rfl, hb1⟩
  have q1 := q.below hb1
  go_wp2_with fail
  refine (bd_write b (b + 1) v (encAll out) (encS r) _ q1.bd (by rw [encS_size]; omega) q1.sz).mono ?_
  rintro e w2 ⟨rfl, ⟨v', h2⟩, h3, h4, h5⟩
  have h6 := h5 _ _ _ _ _ _ (by decide) (Nat.lt_succ_self b) q1.own
  rw [nums_encS] at h2
  go_wp2_with fail
  go_end0
  refine ⟨rfl, v', ⟨?_, h6, q1.bl.trans h3, fun e => by simp at e, h4, ?_⟩⟩
  · rw [encAll_snoc]
    exact h2
  · rw [scAll_snoc, q.sc, hr]
    rfl
theorem isHi_iff (u : Int) : isHi u = true ↔ 55296 ≤ u ∧ u ≤ 56319 := by unfold isHi; exact decide_eq_true_iff
theorem isLo_iff (u : Int) : isLo u = true ↔ 56320 ≤ u ∧ u ≤ 57343 := by unfold isLo; exact decide_eq_true_iff
set_option maxRecDepth 100000 in
set_option maxHeartbeats 8000000 in
theorem utf16_Decode (big : Bool) (s : ByteArray) (w : World) (hs : s.size ≤ 100000) :
    Calls Tryz.prog 77 #[.string s, .bool big] w fun e w' => ∃ vb, e = .returned (.tuple #[.string (textS (dW big 0 (nums s)).1), vb]) ∧ Reads w'.heap.size w' vb ((dW big 0 (nums s)).2.map (Value.int .i64)) ∧ Below w.heap.size w w' := by
  obtain ⟨D, hD⟩ : ∃ D, dW big 0 (nums s) = D := ⟨_, rfl⟩
  rw [hD]
  have HD := Lib.hid hD
  clear hD
  obtain ⟨b, hb⟩ : ∃ b, w.heap.size = b := ⟨_, rfl⟩
  have HB := Lib.hid hb
  have q0 : DIn w (w.alloc (.cells #[.pointer none, .slice none 0 0] 149)) b [] (.slice none 0 0) [] (.slice none 0 0) := by
    rw [← hb]
    exact ⟨⟨⟨_, .inl rfl, heap_alloc_new w _⟩, World.ownsRow_nil _ _ _ _, Nat.lt_succ_self _⟩, World.ownsRow_nil _ _ _ _, (Below.refl _ w).alloc (Nat.le_refl _) _, fun _ => rfl, by simp, rfl⟩
  go_enter Tryz.func77, Tryz.ntmps77
  go_wp2_with fail
  generalize w.alloc (.cells #[.pointer none, .slice none 0 0] 149) = w1 at q0 ⊢
  go_loopw [5, 8] (fun vb i wr => ∃ (k : Nat) (out bad : List Int) (v : Value), i = .int .i64 k ∧ k ≤ s.size ∧ out.length ≤ k ∧ bad.length ≤ k ∧ out ++ (dW big k ((nums s).drop k)).1 = D.1 ∧ bad ++ (dW big k ((nums s).drop k)).2 = D.2 ∧ DIn w wr b out v bad vb) (fun _ i _ => s.size - (intOf i).toNat)
  case atStart => exact ⟨0, [], [], _, rfl, by omega, by simp, by simp, by rw [List.drop_zero, HD.out]; rfl, by rw [List.drop_zero, HD.out]; rfl, q0⟩
  case round =>
    obtain ⟨k, out, bad, v, rfl, hk, hol, hbl, ho, hbd, q⟩ := hrel
    by_cases hlt : k + 1 < s.size
    · have hd1 := decide_eq_true (show (k : Int) + 1 < (s.size : Int) by omega)
      have hdr := nums_drop s k (by omega)
      have hdr1 := nums_drop s (k + 1) hlt
      obtain ⟨x, hx⟩ : ∃ x, s[k].toNat = x := ⟨_, rfl⟩
      obtain ⟨y, hy⟩ : ∃ y, s[k + 1].toNat = y := ⟨_, rfl⟩
      have hx256 : x < 256 := by rw [← hx]; exact s[k].toBitVec.isLt
      have hy256 : y < 256 := by rw [← hy]; exact s[k + 1].toBitVec.isLt
      obtain ⟨u, hu⟩ : ∃ u, unitN big x y = u := ⟨_, rfl⟩
      have hu0 := unit_lo big (x := (x : Int)) (y := (y : Int)) (by omega) (by omega)
      rw [hu] at hu0
      obtain ⟨hu1, hu2⟩ := hu0
      have HU := fun w => utf16_unit big s k k rfl w hlt (by omega) x y hx hy u hu
      rw [hx] at hdr
      rw [hy] at hdr1
      rw [hdr, hdr1] at ho hbd
      clear hdr hdr1
      by_cases h4 : k + 3 < s.size
      · have hd3 := decide_eq_true (show (k : Int) + 3 < (s.size : Int) by omega)
        have hdr2 := nums_drop s (k + 2) (by omega)
        have hdr3 := nums_drop s (k + 3) h4
        obtain ⟨p, hp⟩ : ∃ p, s[k + 2].toNat = p := ⟨_, rfl⟩
        obtain ⟨r, hr⟩ : ∃ r, s[k + 3].toNat = r := ⟨_, rfl⟩
        have hp256 : p < 256 := by rw [← hp]; exact s[k + 2].toBitVec.isLt
        have hr256 : r < 256 := by rw [← hr]; exact s[k + 3].toBitVec.isLt
        obtain ⟨lv, hlv⟩ : ∃ lv, unitN big p r = lv := ⟨_, rfl⟩
        have hlv0 := unit_lo big (x := (p : Int)) (y := (r : Int)) (by omega) (by omega)
        rw [hlv] at hlv0
        obtain ⟨hlv1, hlv2⟩ := hlv0
        have HU2 := fun w => utf16_unit big s (k + 2) ((k : Int) + 2) (by omega) w h4 (by omega) p r hp hr lv hlv
        rw [hp] at hdr2
        rw [hr] at hdr3
        have hd2 : ((x : Int) :: (y : Int) :: (nums s).drop (k + 1 + 1)).drop 2 = (nums s).drop (k + 2) := rfl
        have hstA : ¬ (55296 ≤ u ∧ u ≤ 57343) → step16 big x y ((nums s).drop (k + 1 + 1)) = (u, 2, true) := by
          intro h
          unfold step16
          rw [hu, if_neg (fun e => h (by have := (isHi_iff u).1 e; omega)), if_neg (fun e => h (by have := (isLo_iff u).1 e; omega))]
        have hstB : isHi u = true → isLo lv = true → step16 big x y ((nums s).drop (k + 1 + 1)) = (pairN u lv, 4, true) := by
          intro h1 h2
          rw [show k + 1 + 1 = k + 2 from rfl, hdr2, hdr3]
          unfold step16
          simp only
          rw [hu, hlv, if_pos h1, if_pos h2]
        have hBk : isLo lv = true → k + 4 ≤ s.size ∧ ((x : Int) :: (y : Int) :: (nums s).drop (k + 1 + 1)).drop 4 = (nums s).drop (k + 4) := by
          intro _
          refine ⟨by omega, ?_⟩
          rw [show k + 1 + 1 = k + 2 from rfl, hdr2, hdr3]
          rfl
        have hstC : (55296 ≤ u ∧ u ≤ 57343) → ¬ (isHi u = true ∧ isLo lv = true) → step16 big x y ((nums s).drop (k + 1 + 1)) = (65533, 2, false) := by
          intro h h2
          rw [show k + 1 + 1 = k + 2 from rfl, hdr2, hdr3]
          unfold step16
          simp only
          rw [hu, hlv]
          by_cases h3 : isHi u = true
          · rw [if_pos h3, if_neg (fun e => h2 ⟨h3, e⟩)]
          · rw [if_neg h3, if_pos ((isLo_iff u).2 (by have : ¬ (55296 ≤ u ∧ u ≤ 56319) := fun e => h3 ((isHi_iff u).2 e); omega))]
        clear hdr2 hdr3 hp hr hlv hx hy
        go_wp2_with fail
        refine (HU _).mono ?_
        rintro e w2 ⟨rfl, m1, rfl⟩
        go_wp2_with fail
        refine (HU2 _).mono ?_
        rintro e w3 ⟨rfl, m2, rfl⟩
        have q := q.dn (m1 + m2)
        clear HU HU2 hu
        by_cases hsur : 55296 ≤ u ∧ u ≤ 57343
        · have p1 : (u / 2048 != 27) = false := by simp; omega
          by_cases hB : isHi u = true ∧ isLo lv = true
          · obtain ⟨hB1, hB2⟩ := hB
            have hB1' := (isHi_iff u).1 hB1
            have hB2' := (isLo_iff lv).1 hB2
            have ST := hstB hB1 hB2
            have hpn : pairN u lv = 65536 + u % 1024 * 1024 + lv % 1024 := by unfold pairN; omega
            have hsc : isSc (65536 + u % 1024 * 1024 + lv % 1024) = true := by unfold isSc; exact decide_eq_true (by omega)
            have a1 := u16_and1023 u hu1 hu2
            have a2 := u16_and1023 lv (by omega) (by omega)
            obtain ⟨um, hum⟩ : ∃ um, u % 1024 = um := ⟨_, rfl⟩
            obtain ⟨lm, hlm⟩ : ∃ lm, lv % 1024 = lm := ⟨_, rfl⟩
            have um1 : 0 ≤ um := by omega
            have um2 : um < 1024 := by omega
            have lm1 : 0 ≤ lm := by omega
            have lm2 : lm < 1024 := by omega
            rw [hum] at a1
            rw [hlm] at a2
            rw [hum, hlm] at hpn hsc
            have p2 : (u / 1024 == 54) = true := by simp; omega
            have p3 : (lv / 1024 == 55) = true := by simp; omega
            obtain ⟨hk4, hd4⟩ := hBk hB2
            rw [dW_step big k x y _ ST, hpn] at ho hbd
            simp only [if_true] at ho hbd
            rw [hd4] at ho hbd
            have HO := Lib.hid ho
            have HBD := Lib.hid hbd
            clear ho hbd hB1 hB2 hB1' hB2' ST hum hlm hpn hsur hstB hBk hstC hstA
            go_wp2_with fail
            refine (utf16_dput (65536 + um * 1024 + lm) hsc w _ b out v bad u5 q (by omega)).mono ?_
            rintro e w9 ⟨rfl, v', q9⟩
            go_wp2_with fail
            exact ⟨⟨k + 4, out ++ [65536 + um * 1024 + lm], bad, v', by go_num, by omega, by simp; omega, by omega, by rw [List.append_assoc]; exact HO.out, HBD.out, q9⟩, by simp [intOf]; omega⟩
          · have ST := hstC hsur hB
            rw [dW_step big k x y _ ST] at ho hbd
            simp only [if_neg (show ¬ (false = true) by decide)] at ho hbd
            rw [hd2] at ho hbd
            have HO := Lib.hid ho
            have HBD := Lib.hid hbd
            by_cases hH : isHi u = true
            · have hH' := (isHi_iff u).1 hH
              have hL : ¬ (56320 ≤ lv ∧ lv ≤ 57343) := fun e => hB ⟨hH, (isLo_iff lv).2 e⟩
              have p2 : (u / 1024 == 54) = true := by simp; omega
              have p3 : (lv / 1024 == 55) = false := by simp; omega
              clear ho hbd hB ST hsur hstB hBk hstC hstA hH hH' hL
              go_wp2_with fail
              refine (utf16_dput 65533 (by decide) w _ b out v bad u5 q (by omega)).mono ?_
              rintro e w9 ⟨rfl, v', q9⟩
              obtain ⟨vb', w10, hr, q10⟩ := q9.wrong (k : Int) (by omega)
              have HA := Lib.hid hr
              clear hr
              go_wp2_with (at_builtin; refine wpList_append_run rfl _ _ _ _ rfl _ _ rfl rfl _ _ HA.out ?_)
              exact ⟨⟨k + 2, out ++ [65533], bad ++ [(k : Int)], v', by go_num, by omega, by simp; omega, by simp; omega, by rw [List.append_assoc]; exact HO.out, by rw [List.append_assoc]; exact HBD.out, q10⟩, by simp [intOf]; omega⟩
            · have hH' : ¬ (55296 ≤ u ∧ u ≤ 56319) := fun e => hH ((isHi_iff u).2 e)
              have p2 : (u / 1024 == 54) = false := by simp; omega
              clear ho hbd hB ST hsur hstB hBk hstC hstA hH hH'
              go_wp2_with fail
              refine (utf16_dput 65533 (by decide) w _ b out v bad u5 q (by omega)).mono ?_
              rintro e w9 ⟨rfl, v', q9⟩
              obtain ⟨vb', w10, hr, q10⟩ := q9.wrong (k : Int) (by omega)
              have HA := Lib.hid hr
              clear hr
              go_wp2_with (at_builtin; refine wpList_append_run rfl _ _ _ _ rfl _ _ rfl rfl _ _ HA.out ?_)
              exact ⟨⟨k + 2, out ++ [65533], bad ++ [(k : Int)], v', by go_num, by omega, by simp; omega, by simp; omega, by rw [List.append_assoc]; exact HO.out, by rw [List.append_assoc]; exact HBD.out, q10⟩, by simp [intOf]; omega⟩
        · have p1 : (u / 2048 != 27) = true := by simp; omega
          have ST := hstA hsur
          have hsc : isSc u = true := by unfold isSc; exact decide_eq_true (by omega)
          rw [dW_step big k x y _ ST] at ho hbd
          simp only [if_true] at ho hbd
          rw [hd2] at ho hbd
          have HO := Lib.hid ho
          have HBD := Lib.hid hbd
          clear ho hbd ST hsur hstB hBk hstC hstA
          go_wp2_with fail
          refine (utf16_dput u hsc w _ b out v bad u5 q (by omega)).mono ?_
          rintro e w9 ⟨rfl, v', q9⟩
          go_wp2_with fail
          exact ⟨⟨k + 2, out ++ [u], bad, v', by go_num, by omega, by simp; omega, by omega, by rw [List.append_assoc]; exact HO.out, HBD.out, q9⟩, by simp [intOf]; omega⟩
      · have hd3 := decide_eq_false (show ¬ (k : Int) + 3 < (s.size : Int) by omega)
        have hd2 : ((x : Int) :: (y : Int) :: (nums s).drop (k + 1 + 1)).drop 2 = (nums s).drop (k + 2) := rfl
        have hsh : ∀ p q r, (nums s).drop (k + 1 + 1) ≠ p :: q :: r := by
          intro p q r e
          have := congrArg List.length e
          rw [List.length_drop, nums_length] at this
          simp only [List.length_cons] at this
          omega
        have hstA : ¬ (55296 ≤ u ∧ u ≤ 57343) → step16 big x y ((nums s).drop (k + 1 + 1)) = (u, 2, true) := by
          intro h
          unfold step16
          rw [hu, if_neg (fun e => h (by have := (isHi_iff u).1 e; omega)), if_neg (fun e => h (by have := (isLo_iff u).1 e; omega))]
        have hstC : (55296 ≤ u ∧ u ≤ 57343) → step16 big x y ((nums s).drop (k + 1 + 1)) = (65533, 2, false) := by
          intro h
          unfold step16
          rw [hu]
          by_cases h3 : isHi u = true
          · rw [if_pos h3]
            cases hdd : (nums s).drop (k + 1 + 1) with
            | nil => rfl
            | cons p r =>
              cases r with
              | nil => rfl
              | cons q r => exact absurd hdd (hsh p q r)
          · rw [if_neg h3, if_pos ((isLo_iff u).2 (by have : ¬ (55296 ≤ u ∧ u ≤ 56319) := fun e => h3 ((isHi_iff u).2 e); omega))]
        clear hsh hx hy
        go_wp2_with fail
        refine (HU _).mono ?_
        rintro e w2 ⟨rfl, m1, rfl⟩
        have q := q.dn m1
        clear HU hu
        by_cases hsur : 55296 ≤ u ∧ u ≤ 57343
        · have p1 : (u / 2048 != 27) = false := by simp; omega
          have ST := hstC hsur
          rw [dW_step big k x y _ ST] at ho hbd
          simp only [if_neg (show ¬ (false = true) by decide)] at ho hbd
          rw [hd2] at ho hbd
          have HO := Lib.hid ho
          have HBD := Lib.hid hbd
          by_cases hH : 55296 ≤ u ∧ u ≤ 56319
          · have p2 : (u / 1024 == 54) = true := by simp; omega
            have p3 : ((0 : Int) / 1024 == 55) = false := by decide
            clear ho hbd ST hsur hstC hstA hH
            go_wp2_with fail
            refine (utf16_dput 65533 (by decide) w _ b out v bad u5 q (by omega)).mono ?_
            rintro e w9 ⟨rfl, v', q9⟩
            obtain ⟨vb', w10, hr, q10⟩ := q9.wrong (k : Int) (by omega)
            have HA := Lib.hid hr
            clear hr
            go_wp2_with (at_builtin; refine wpList_append_run rfl _ _ _ _ rfl _ _ rfl rfl _ _ HA.out ?_)
            exact ⟨⟨k + 2, out ++ [65533], bad ++ [(k : Int)], v', by go_num, by omega, by simp; omega, by simp; omega, by rw [List.append_assoc]; exact HO.out, by rw [List.append_assoc]; exact HBD.out, q10⟩, by simp [intOf]; omega⟩
          · have p2 : (u / 1024 == 54) = false := by simp; omega
            clear ho hbd ST hsur hstC hstA hH
            go_wp2_with fail
            refine (utf16_dput 65533 (by decide) w _ b out v bad u5 q (by omega)).mono ?_
            rintro e w9 ⟨rfl, v', q9⟩
            obtain ⟨vb', w10, hr, q10⟩ := q9.wrong (k : Int) (by omega)
            have HA := Lib.hid hr
            clear hr
            go_wp2_with (at_builtin; refine wpList_append_run rfl _ _ _ _ rfl _ _ rfl rfl _ _ HA.out ?_)
            exact ⟨⟨k + 2, out ++ [65533], bad ++ [(k : Int)], v', by go_num, by omega, by simp; omega, by simp; omega, by rw [List.append_assoc]; exact HO.out, by rw [List.append_assoc]; exact HBD.out, q10⟩, by simp [intOf]; omega⟩
        · have p1 : (u / 2048 != 27) = true := by simp; omega
          have ST := hstA hsur
          have hsc : isSc u = true := by unfold isSc; exact decide_eq_true (by omega)
          rw [dW_step big k x y _ ST] at ho hbd
          simp only [if_true] at ho hbd
          rw [hd2] at ho hbd
          have HO := Lib.hid ho
          have HBD := Lib.hid hbd
          clear ho hbd ST hsur hstC hstA
          go_wp2_with fail
          refine (utf16_dput u hsc w _ b out v bad u5 q (by omega)).mono ?_
          rintro e w9 ⟨rfl, v', q9⟩
          go_wp2_with fail
          exact ⟨⟨k + 2, out ++ [u], bad, v', by go_num, by omega, by simp; omega, by omega, by rw [List.append_assoc]; exact HO.out, HBD.out, q9⟩, by simp [intOf]; omega⟩
    · have hd1 := decide_eq_false (show ¬ (k : Int) + 1 < (s.size : Int) by omega)
      by_cases hk1 : k < s.size
      · have hd5 := decide_eq_true (show (k : Int) < (s.size : Int) by omega)
        have hk2 : s.size = k + 1 := by omega
        obtain ⟨x, hx⟩ : ∃ x : Int, (nums s).drop k = [x] := ⟨_, by rw [nums_drop s k hk1, nums_drop_end s (k + 1) (by omega)]⟩
        rw [hx, dW_one] at ho hbd
        have HO := Lib.hid ho
        have HBD := Lib.hid hbd
        clear ho hbd hx hk2
        go_wp2_with fail
        refine (utf16_dput 65533 (by decide) w _ b out v bad u5 q (by omega)).mono ?_
        rintro e w9 ⟨rfl, v', q9⟩
        obtain ⟨vb', w10, hr, q10⟩ := q9.wrong (k : Int) (by omega)
        have HA := Lib.hid hr
        clear hr
        have hbb : (bad ++ [(k : Int)]).length ≤ 1000000 := by simp; omega
        obtain ⟨bad2, hbad2⟩ : ∃ bad2, bad ++ [(k : Int)] = bad2 := ⟨_, rfl⟩
        obtain ⟨out2, hout2⟩ : ∃ out2, out ++ [(65533 : Int)] = out2 := ⟨_, rfl⟩
        rw [hbad2] at q10 HBD hbb
        rw [hout2] at q10 HO
        clear hbad2 hout2 q9
        obtain ⟨va9, vl9, vc9, rfl⟩ := own_slice q10.own
        go_upto_region 20 with (at_builtin; refine wpList_append_run rfl _ _ _ _ rfl _ _ rfl rfl _ _ HA.out ?_)
        cases hout : out2 with
        | nil =>
          have hv := q10.nil hout
          have qb := q10.bd
          rw [hout, hv] at qb
          have HT := Lib.hid (show textS D.1 = ⟨#[]⟩ by rw [← HO.out, hout]; rfl)
          go_wp2_with fail
          refine (bd_string_nil b (b + 1) _ qb).mono ?_
          rintro e w11 ⟨rfl, hb1, hb2, _⟩
          have hrow := hb2 _ _ _ _ _ _ (by decide) (Nat.lt_succ_self b) q10.own
          go_wp2_with fail
          go_ret2
          refine ⟨_, by rw [HT.out]; rfl, ?_, by rw [HB.out]; exact q10.bl.trans hb1⟩
          rw [← HBD.out]
          exact Reads.of_own hrow (by unfold maxLen; first | omega | (simp; omega))
        | cons o1 o2 =>
          have hne : encAll (out2) ≠ [] := by
            intro e
            have h1 := encN_ne (r := o1) (scAll_mem q10.sc (by rw [hout]; exact List.mem_cons_self ..))
            rw [hout, encAll_cons] at e
            exact h1 (List.append_eq_nil_iff.1 e).1
          have HT := Lib.hid (show textS D.1 = strOfNums (encAll (out2)) by rw [← HO.out]; exact textS_yes q10.sc)
          clear hout
          go_wp2_with fail
          refine (bd_string b (b + 1) _ _ _ q10.bd (isBs_encAll _) hne).mono ?_
          rintro e w11 ⟨rfl, hb1, hb2, _⟩
          have hrow := hb2 _ _ _ _ _ _ (by decide) (Nat.lt_succ_self b) q10.own
          go_wp2_with fail
          go_ret2
          refine ⟨_, by rw [HT.out]; rfl, ?_, by rw [HB.out]; exact q10.bl.trans hb1⟩
          rw [← HBD.out]
          exact Reads.of_own hrow (by unfold maxLen; first | omega | (simp; omega))
      · have hd5 := decide_eq_false (show ¬ (k : Int) < (s.size : Int) by omega)
        rw [nums_drop_end s k (by omega), dW_nil] at ho hbd
        simp only [List.append_nil] at ho hbd
        have HO := Lib.hid ho
        have HBD := Lib.hid hbd
        have hbb : bad.length ≤ 1000000 := by omega
        clear ho hbd
        obtain ⟨va9, vl9, vc9, rfl⟩ := own_slice q.own
        cases hout : out with
        | nil =>
          have hv := q.nil hout
          have qb := q.bd
          rw [hout, hv] at qb
          have HT := Lib.hid (show textS D.1 = ⟨#[]⟩ by rw [← HO.out, hout]; rfl)
          go_wp2_with fail
          refine (bd_string_nil b (b + 1) _ qb).mono ?_
          rintro e w11 ⟨rfl, hb1, hb2, _⟩
          have hrow := hb2 _ _ _ _ _ _ (by decide) (Nat.lt_succ_self b) q.own
          go_wp2_with fail
          go_ret2
          refine ⟨_, by rw [HT.out]; rfl, ?_, by rw [HB.out]; exact q.bl.trans hb1⟩
          rw [← HBD.out]
          exact Reads.of_own hrow (by unfold maxLen; first | omega | (simp; omega))
        | cons o1 o2 =>
          have hne : encAll (out) ≠ [] := by
            intro e
            have h1 := encN_ne (r := o1) (scAll_mem q.sc (by rw [hout]; exact List.mem_cons_self ..))
            rw [hout, encAll_cons] at e
            exact h1 (List.append_eq_nil_iff.1 e).1
          have HT := Lib.hid (show textS D.1 = strOfNums (encAll (out)) by rw [← HO.out]; exact textS_yes q.sc)
          clear hout
          go_wp2_with fail
          refine (bd_string b (b + 1) _ _ _ q.bd (isBs_encAll _) hne).mono ?_
          rintro e w11 ⟨rfl, hb1, hb2, _⟩
          have hrow := hb2 _ _ _ _ _ _ (by decide) (Nat.lt_succ_self b) q.own
          go_wp2_with fail
          go_ret2
          refine ⟨_, by rw [HT.out]; rfl, ?_, by rw [HB.out]; exact q.bl.trans hb1⟩
          rw [← HBD.out]
          exact Reads.of_own hrow (by unfold maxLen; first | omega | (simp; omega))
end Go.Proofs.YthahfoliblgegaaGreatDoor
/- 
  The walks of Encode, in utf16 and in the reference; Units, Valid.
 -/
namespace Go.Proofs.YthahfoliblgegaaGreatDoor
open Go.RowKit
def encB (big : Bool) (s : ByteArray) : ByteArray := if okAll (nums s) then strOfNums (enc16 big (scalL (nums s))) else ⟨#[]⟩
def encC (s : ByteArray) : Int := if okAll (nums s) then 0 else 70
theorem enc16_take (big : Bool) (xs : List Int) (k : Nat) (h : k < xs.length) : enc16 big (xs.take (k + 1)) = enc16 big (xs.take k) ++ encU big xs[k] := by
  rw [take_snoc xs k h, enc16_append]
  simp [enc16]
theorem scalL_len (l : List Int) : (scalL l).length ≤ l.length := by
  unfold scalL
  split
  · rw [List.length_map]; exact pieces_len _ _
  · exact Nat.zero_le _
theorem i64_or10 (x y : Int) (h0 : 0 ≤ x) (h1 : x < 1152921504606846976) (h2 : x % 1024 = 0) (h3 : 0 ≤ y) (h4 : y < 1024) : bits .or .i64 x y = x + y :=
  bits_join .i64 62 (by decide) wraps_i64 10 x y h0 h2 (by omega) h3 h4 (by omega)
theorem enc16_le (big : Bool) (xs : List Int) : (enc16 big xs).length ≤ 4 * xs.length := by
  have := enc16_len big xs
  have := (unitsN_lo xs).2
  omega
set_option maxRecDepth 100000 in
set_option maxHeartbeats 4000000 in
theorem utf16_Encode (big : Bool) (s : ByteArray) (w : World) (hs : s.size ≤ 100000) :
    Calls Tryz.prog 44 #[.string s, .bool big] w fun e w' => e = .returned (.tuple #[.string (encB big s), .int .i64 (encC s)]) ∧ Below w.heap.size w w' := by
  have HSC := fun w => utf8_Scalars s w (by omega)
  obtain ⟨ok, hok⟩ : ∃ ok, okAll (nums s) = ok := ⟨_, rfl⟩
  have hl := scalL_len (nums s)
  rw [nums_length] at hl
  cases ok with
  | false =>
    have HEB := Lib.hid (show encB big s = ⟨#[]⟩ by unfold encB; rw [hok]; rfl)
    have HEC := Lib.hid (show encC s = 70 by unfold encC; rw [hok]; rfl)
    simp only [hok] at HSC
    clear hok
    go_enter Tryz.func44, Tryz.ntmps44
    go_wp2_with fail
    refine (HSC _).mono ?_
    rintro e w1 ⟨v, rfl, -, hb⟩
    go_wp2_with fail
    go_ret2
    exact ⟨by rw [HEB.out, HEC.out]; rfl, hb⟩
  | true =>
    have hsx := (ok_scal (nums s) (nums_isBs s) hok).1
    have HEB := Lib.hid (show encB big s = strOfNums (enc16 big (scalL (nums s))) by unfold encB; rw [hok]; rfl)
    have HEC := Lib.hid (show encC s = 0 by unfold encC; rw [hok]; rfl)
    simp only [hok] at HSC
    obtain ⟨xs, hxs⟩ : ∃ xs, scalL (nums s) = xs := ⟨_, rfl⟩
    rw [hxs] at hl hsx HEB
    simp only [hxs] at HSC
    clear hok hxs
    go_enter Tryz.func44, Tryz.ntmps44
    go_wp2_with fail
    refine (HSC _).mono ?_
    rintro e w1 ⟨v, rfl, ho, hb1⟩
    obtain ⟨a, cap, rfl, hmx, hc⟩ := (Reads.of_own ho (by unfold maxLen; omega)).open
    clear ho HSC
    go_wp2_with fail
    go_loopw [9, 23] (fun b i wr => ∃ k : Nat, i = .int .i64 k ∧ k ≤ xs.length ∧ wr.ownsRow w1.heap.size 5 1 b (enc16 big (xs.take k)).length ((enc16 big (xs.take k)).map (Value.int .u8)) ∧ Below w1.heap.size w1 wr) (fun _ i _ => xs.length - (intOf i).toNat)
    case atStart => exact ⟨0, rfl, by omega, World.ownsRow_nil _ _ _ _, Below.refl _ _⟩
    case round =>
      obtain ⟨k, rfl, hk, hown, hb⟩ := hrel
      by_cases hlt : k < xs.length
      · obtain ⟨b0, off, rfl, hbB, hcx⟩ := hc k hlt
        have hcx1 := (hb.cell (p := ⟨b0, off + k, none⟩) (by simpa using hbB)).trans hcx
        have hsn := enc16_take big xs k hlt
        have hle := enc16_le big (xs.take k)
        have hlen : (xs.take k).length ≤ xs.length := by rw [List.length_take]; omega
        have hx0 := (isSc_iff _).1 (scAll_mem hsx (List.getElem_mem hlt))
        obtain ⟨x, hx⟩ : ∃ x, xs[k] = x := ⟨_, rfl⟩
        rw [hx] at hcx1 hsn hx0
        obtain ⟨acc, hacc⟩ : ∃ acc, enc16 big (xs.take k) = acc := ⟨_, rfl⟩
        rw [hacc] at hown hsn hle
        obtain ⟨hx1, hx2, hx3⟩ := hx0
        by_cases hbig : 65536 ≤ x
        · obtain ⟨y, hy⟩ : ∃ y, x - 65536 = y := ⟨_, rfl⟩
          have hy0 : 0 ≤ y := by omega
          have hy1 : y < 1048576 := by omega
          have hEU : encU big x = put16 big (55296 + y / 1024) ++ put16 big (56320 + y % 1024) := by unfold encU; rw [if_pos hbig, hy]
          rw [hEU] at hsn
          have p1 : (x / 65536 == 0) = false := by simp; omega
          have a1 := i64_and1023 y
          obtain ⟨yd, hyd⟩ : ∃ yd, y / 1024 = yd := ⟨_, rfl⟩
          obtain ⟨ym, hym⟩ : ∃ ym, y % 1024 = ym := ⟨_, rfl⟩
          have yd0 : 0 ≤ yd := by omega
          have yd1 : yd < 1024 := by omega
          have ym0 : 0 ≤ ym := by omega
          have ym1 : ym < 1024 := by omega
          have o1 := i64_or10 55296 yd (by omega) (by omega) (by decide) yd0 yd1
          have o2 := i64_or10 56320 ym (by omega) (by omega) (by decide) ym0 ym1
          rw [hym] at a1
          rw [hyd, hym] at hsn
          have HSN := Lib.hid hsn
          clear hsn hcx hc hx hacc hEU hbig hx1 hx2 hx3 hym hsx
          go_wp2_with fail
          refine (utf16_put big (55296 + yd) (by omega) (by omega) w1.heap.size _ acc _ hown (by omega) hb.size).mono ?_
          rintro e w3 ⟨v3, rfl, ho3, hb3⟩
          have h16 := put16_len big (55296 + yd)
          go_wp2_with fail
          refine (utf16_put big (56320 + ym) (by omega) (by omega) w1.heap.size _ _ _ ho3 (by rw [List.length_append]; omega) (hb.trans hb3).size).mono ?_
          rintro e w4 ⟨v4, rfl, ho4, hb4⟩
          rw [List.append_assoc, ← HSN.out] at ho4
          go_wp2_with fail
          exact ⟨⟨k + 1, by go_num, by omega, ho4, (hb.trans hb3).trans hb4⟩, by simp [intOf]; omega⟩
        · have p1 : (x / 65536 == 0) = true := by simp; omega
          have hEU : encU big x = put16 big x := by unfold encU; rw [if_neg hbig]
          rw [hEU] at hsn
          have HSN := Lib.hid hsn
          have hx4 : x < 65536 := by omega
          clear hsn hcx hc hx hacc hEU hbig hx2 hx3 hsx
          go_wp2_with fail
          refine (utf16_put big x hx1 hx4 w1.heap.size _ acc _ hown (by omega) hb.size).mono ?_
          rintro e w3 ⟨v3, rfl, ho3, hb3⟩
          rw [← HSN.out] at ho3
          go_wp2_with fail
          exact ⟨⟨k + 1, by go_num, by omega, ho3, hb.trans hb3⟩, by simp [intOf]; omega⟩
      · obtain rfl : k = xs.length := by omega
        rw [List.take_of_length_le (Nat.le_refl _)] at hown
        have hcv := conv_own wr w1.heap.size _ _ _ hown
        clear hc hown
        go_wp2_with fail
        go_ret2
        exact ⟨by rw [HEB.out, HEC.out]; rfl, hb1.trans (hb.mono hb1.size)⟩
set_option maxRecDepth 100000 in
set_option maxHeartbeats 4000000 in
theorem ref03_Encode (big : Bool) (s : ByteArray) (w : World) (hs : s.size ≤ 100000) :
    Calls Tryz.prog 46 #[.string s, .bool big] w fun e w' => e = .returned (.tuple #[.string (encB big s), .int .i64 (encC s)]) ∧ Below w.heap.size w w' := by
  have HSC := fun w => ref02_Scalars s w (by omega)
  have HVA := fun w => ref02_Valid s w (by omega)
  obtain ⟨ok, hok⟩ : ∃ ok, okAll (nums s) = ok := ⟨_, rfl⟩
  have hl := scalL_len (nums s)
  rw [nums_length] at hl
  simp only [hok] at HVA
  cases ok with
  | false =>
    have HEB := Lib.hid (show encB big s = ⟨#[]⟩ by unfold encB; rw [hok]; rfl)
    have HEC := Lib.hid (show encC s = 70 by unfold encC; rw [hok]; rfl)
    clear hok
    go_enter Tryz.func46, Tryz.ntmps46
    go_wp2_with fail
    refine (HVA _).mono ?_
    rintro e w1 ⟨rfl, hb⟩
    go_wp2_with fail
    go_ret2
    exact ⟨by rw [HEB.out, HEC.out]; rfl, hb⟩
  | true =>
    have hsx := (ok_scal (nums s) (nums_isBs s) hok).1
    have HEB := Lib.hid (show encB big s = strOfNums (enc16 big (scalL (nums s))) by unfold encB; rw [hok]; rfl)
    have HEC := Lib.hid (show encC s = 0 by unfold encC; rw [hok]; rfl)
    simp only [hok] at HSC
    obtain ⟨xs, hxs⟩ : ∃ xs, scalL (nums s) = xs := ⟨_, rfl⟩
    rw [hxs] at hl hsx HEB
    simp only [hxs] at HSC
    clear hok hxs
    go_enter Tryz.func46, Tryz.ntmps46
    go_wp2_with fail
    refine (HVA _).mono ?_
    rintro e w0 ⟨rfl, hb0⟩
    go_wp2_with fail
    refine (HSC _).mono ?_
    rintro e w1 ⟨v, rfl, ho, hb1'⟩
    have hb1 := hb0.trans (hb1'.mono hb0.size)
    obtain ⟨a, cap, rfl, hmx, hc⟩ := (Reads.of_own ho (by unfold maxLen; omega)).open
    clear ho HSC HVA hb1' hb0
    go_wp2_with fail
    go_loopw [6, 9] (fun b i wr => ∃ k : Nat, i = .int .i64 k ∧ k ≤ xs.length ∧ wr.ownsRow w1.heap.size 5 1 b (enc16 big (xs.take k)).length ((enc16 big (xs.take k)).map (Value.int .u8)) ∧ Below w1.heap.size w1 wr) (fun _ i _ => xs.length - (intOf i).toNat)
    case atStart => exact ⟨0, rfl, by omega, World.ownsRow_nil _ _ _ _, Below.refl _ _⟩
    case round =>
      obtain ⟨k, rfl, hk, hown, hb⟩ := hrel
      by_cases hlt : k < xs.length
      · obtain ⟨b0, off, rfl, hbB, hcx⟩ := hc k hlt
        have hcx1 := (hb.cell (p := ⟨b0, off + k, none⟩) (by simpa using hbB)).trans hcx
        have hsn := enc16_take big xs k hlt
        have hle := enc16_le big (xs.take k)
        have hlen : (xs.take k).length ≤ xs.length := by rw [List.length_take]; omega
        have hx0 := (isSc_iff _).1 (scAll_mem hsx (List.getElem_mem hlt))
        obtain ⟨x, hx⟩ : ∃ x, xs[k] = x := ⟨_, rfl⟩
        rw [hx] at hcx1 hsn hx0
        obtain ⟨acc, hacc⟩ : ∃ acc, enc16 big (xs.take k) = acc := ⟨_, rfl⟩
        rw [hacc] at hown hsn hle
        obtain ⟨hx1, hx2, hx3⟩ := hx0
        by_cases hbig : 65536 ≤ x
        · obtain ⟨y, hy⟩ : ∃ y, x - 65536 = y := ⟨_, rfl⟩
          have hy0 : 0 ≤ y := by omega
          have hy1 : y < 1048576 := by omega
          have hEU : encU big x = put16 big (55296 + y / 1024) ++ put16 big (56320 + y % 1024) := by unfold encU; rw [if_pos hbig, hy]
          rw [hEU] at hsn
          have p1 := decide_eq_true hbig
          have d1 : y.tdiv 1024 = y / 1024 := Int.tdiv_eq_ediv_of_nonneg hy0
          have d2 : y.tmod 1024 = y % 1024 := Int.tmod_eq_emod_of_nonneg hy0
          obtain ⟨yd, hyd⟩ : ∃ yd, y / 1024 = yd := ⟨_, rfl⟩
          obtain ⟨ym, hym⟩ : ∃ ym, y % 1024 = ym := ⟨_, rfl⟩
          have yd0 : 0 ≤ yd := by omega
          have yd1 : yd < 1024 := by omega
          have ym0 : 0 ≤ ym := by omega
          have ym1 : ym < 1024 := by omega
          rw [hyd] at d1
          rw [hym] at d2
          rw [hyd, hym] at hsn
          have HSN := Lib.hid hsn
          clear hsn hcx hc hx hacc hEU hx1 hx2 hx3 hsx
          go_wp2_with fail
          refine (ref03_put big (55296 + yd) (by omega) (by omega) w1.heap.size _ acc _ hown (by omega) hb.size).mono ?_
          rintro e w3 ⟨v3, rfl, ho3, hb3⟩
          have h16 := put16_len big (55296 + yd)
          go_wp2_with fail
          refine (ref03_put big (56320 + ym) (by omega) (by omega) w1.heap.size _ _ _ ho3 (by rw [List.length_append]; omega) (hb.trans hb3).size).mono ?_
          rintro e w4 ⟨v4, rfl, ho4, hb4⟩
          rw [List.append_assoc, ← HSN.out] at ho4
          go_wp2_with fail
          exact ⟨⟨k + 1, by go_num, by omega, ho4, (hb.trans hb3).trans hb4⟩, by simp [intOf]; omega⟩
        · have p1 := decide_eq_false hbig
          have hEU : encU big x = put16 big x := by unfold encU; rw [if_neg hbig]
          rw [hEU] at hsn
          have HSN := Lib.hid hsn
          have hx4 : x < 65536 := by omega
          clear hsn hcx hc hx hacc hEU hx2 hx3 hsx
          go_wp2_with fail
          refine (ref03_put big x hx1 hx4 w1.heap.size _ acc _ hown (by omega) hb.size).mono ?_
          rintro e w3 ⟨v3, rfl, ho3, hb3⟩
          rw [← HSN.out] at ho3
          go_wp2_with fail
          exact ⟨⟨k + 1, by go_num, by omega, ho3, hb.trans hb3⟩, by simp [intOf]; omega⟩
      · obtain rfl : k = xs.length := by omega
        rw [List.take_of_length_le (Nat.le_refl _)] at hown
        have hcv := conv_own wr w1.heap.size _ _ _ hown
        clear hc hown
        go_wp2_with fail
        go_ret2
        exact ⟨by rw [HEB.out, HEC.out]; rfl, hb1.trans (hb.mono hb1.size)⟩
def unitsB (s : ByteArray) : Int := (unitsN (scalL (nums s)) : Nat)
theorem encB_size (big : Bool) (s : ByteArray) : ((encB big s).size : Int) = 2 * unitsB s := by
  unfold encB unitsB
  by_cases h : okAll (nums s) = true
  · rw [if_pos h, strOfNums_size, enc16_len]
    omega
  · rw [if_neg h]
    have : scalL (nums s) = [] := by unfold scalL; rw [if_neg h]
    rw [this]
    rfl
end Go.Proofs.YthahfoliblgegaaGreatDoor
/- 
  wakes; Utf16Units.
 -/
namespace Go.Proofs.YthahfoliblgegaaGreatDoor
open Go.RowKit
theorem ok_app {a c : List Int} (hc : isBs c) (oa : okAll a = true) (oc : okAll c = true) : okAll (a ++ c) = true ∧ scalL (a ++ c) = scalL a ++ scalL c := by
  have hp := pieces_app_len a.length a c (Nat.le_refl _) (ok_head c hc oc)
  have h1 : okAll (a ++ c) = true := by
    unfold okAll at oa oc ⊢
    rw [hp, List.all_append, oa, oc]
    rfl
  refine ⟨h1, ?_⟩
  unfold scalL
  rw [if_pos h1, if_pos oa, if_pos oc, hp, List.map_append]
theorem nums_app (x y : ByteArray) : nums (x ++ y) = nums x ++ nums y := by
  unfold nums
  rw [ByteArray.data_append, Array.toList_append, List.map_append]
theorem unitsB_app (a b : ByteArray) (oa : okAll (nums a) = true) (ob : okAll (nums b) = true) : unitsB (a ++ b) = unitsB a + unitsB b := by
  unfold unitsB
  rw [nums_app, (ok_app (nums_isBs b) oa ob).2, unitsN_append]
  omega
theorem unitsB_no {s : ByteArray} (h : okAll (nums s) = false) : unitsB s = 0 := by
  unfold unitsB scalL
  rw [if_neg (by rw [h]; decide)]
  rfl
end Go.Proofs.YthahfoliblgegaaGreatDoor
/- 
  Utf16Joined.
 -/
namespace Go.Proofs.YthahfoliblgegaaGreatDoor
open Go.RowKit
theorem encB_yes {s : ByteArray} (big : Bool) (h : okAll (nums s) = true) : encB big s = strOfNums (enc16 big (scalL (nums s))) := if_pos h
theorem encC_yes {s : ByteArray} (h : okAll (nums s) = true) : encC s = 0 := if_pos h
theorem encC_no {s : ByteArray} (h : okAll (nums s) = false) : encC s = 70 := if_neg (by rw [h]; decide)
theorem encB_nums {s : ByteArray} (big : Bool) (h : okAll (nums s) = true) : nums (encB big s) = enc16 big (scalL (nums s)) := by
  rw [encB_yes big h]
  exact nums_strOfNums _ (enc16_bs big _ (ok_scal (nums s) (nums_isBs s) h).1)
theorem strOfNums_app (a b : List Int) : strOfNums (a ++ b) = strOfNums a ++ strOfNums b := by
  apply ByteArray.ext
  rw [ByteArray.data_append]
  simp [strOfNums]
theorem encB_app {a b : ByteArray} (big : Bool) (oa : okAll (nums a) = true) (ob : okAll (nums b) = true) : encB big (a ++ b) = encB big a ++ encB big b := by
  have h := ok_app (nums_isBs b) oa ob
  have hn : okAll (nums (a ++ b)) = true := by rw [nums_app]; exact h.1
  rw [encB_yes big hn, encB_yes big oa, encB_yes big ob, nums_app, h.2, enc16_append, strOfNums_app]
/-- what was encoded is decoded as the text. -/
theorem dec_encB {s : ByteArray} (big : Bool) (h : okAll (nums s) = true) : dW big 0 (nums (encB big s)) = (scalL (nums s), []) := by
  rw [encB_nums big h]
  exact dec_enc big _ 0 (ok_scal (nums s) (nums_isBs s) h).1
theorem textS_scal {s : ByteArray} (h : okAll (nums s) = true) : textS (scalL (nums s)) = s := by
  have hk := ok_scal (nums s) (nums_isBs s) h
  rw [textS_yes hk.1, hk.2, strOfNums_nums]
theorem encB_le (big : Bool) (s : ByteArray) : (encB big s).size ≤ 4 * s.size := by
  have h1 := encB_size big s
  have h2 := (unitsN_lo (scalL (nums s))).2
  have h3 := scalL_len (nums s)
  rw [nums_length] at h3
  unfold unitsB at h1
  omega
end Go.Proofs.YthahfoliblgegaaGreatDoor
/- 
  utf16.Valid; Utf16Back.
 -/
namespace Go.Proofs.YthahfoliblgegaaGreatDoor
open Go.RowKit
theorem dec_len (big : Bool) : ∀ (f a : Nat) (l : List Int), (dec16 big f a l).1.length ≤ l.length ∧ (dec16 big f a l).2.length ≤ l.length
  | 0, _, _ => ⟨Nat.zero_le _, Nat.zero_le _⟩
  | _ + 1, _, [] => ⟨Nat.le_refl _, Nat.le_refl _⟩
  | _ + 1, _, [_] => ⟨Nat.le_refl _, Nat.le_refl _⟩
  | f + 1, a, x :: y :: r => by
    have hn := step16_n big x y r
    have ih := dec_len big f (a + (step16 big x y r).2.1) ((x :: y :: r).drop (step16 big x y r).2.1)
    rw [List.length_drop] at ih
    rw [dec16]
    simp only [List.length_cons] at ih ⊢
    refine ⟨by omega, ?_⟩
    split
    · omega
    · simp only [List.length_cons]
      omega
theorem textS_ok {xs : List Int} (h : scAll xs = true) : okAll (nums (textS xs)) = true ∧ scalL (nums (textS xs)) = xs := by
  rw [textS_yes h, nums_strOfNums _ (isBs_encAll xs)]
  exact ⟨okAll_encAll xs h, scalL_encAll xs h⟩
def vB (big : Bool) (s : ByteArray) : Bool := (dW big 0 (nums s)).2.isEmpty
end Go.Proofs.YthahfoliblgegaaGreatDoor
/- 
  Two rows of ints in one loop; the walk of the reference's Decode.
 -/
namespace Go.Proofs.YthahfoliblgegaaGreatDoor
open Go.RowKit
/-- an append of one int, and where what comes out lies. -/
theorem app_int_l (wr : World) (base : Nat) (v : Value) (n : Nat) (xs : List Int) (hown : wr.ownsRow base 3 1 v n (xs.map (Value.int .i64))) (x : Int) (hn : n < 1099511627776) (hbase : base ≤ wr.heap.size) :
    ∃ v' w' g, (Builtin.append_ #[60, 60] 60 #[v, .slice (some ⟨wr.heap.size, 0, none⟩) 1 1]).run Tryz.prog (wr.alloc (.cells #[.int .i64 x] 3)) = .ok v' w' ∧
      w'.ownsRow base 3 1 v' (n + 1) ((xs ++ [x]).map (Value.int .i64)) ∧ (wr.alloc (.cells #[.int .i64 x] 3)).grownBy w' v.ownBlock ∧ v'.ownBlock = some g ∧ (v.ownBlock = some g ∨ wr.heap.size < g) := by
  obtain ⟨i0, hi, hz0, hz1, hz2⟩ := info_parts infoInt
  obtain ⟨g, cap, w', h1, h2, h3, h4, h5⟩ := run_append_lies (P := Tryz.prog) (w := wr.alloc (.cells #[.int .i64 x] 3)) 60 60 base 3 i0 (.int .i64 0) 1 8 Tryz.underlying60 hi hz0 hz1 hz2 rfl (by decide) v n _ (hown.alloc _) ⟨wr.heap.size, 0, none⟩ 1 1 [.int .i64 x] rfl
    (fun j u hj => by match j, hj with | 0, hj => simp at hj; subst hj; simp [Addr.add, World.cell?_alloc_mark]) (fun u hu => by simp at hu; subst hu; rfl) (by decide) (by unfold maxLen; omega) (by omega) (by simp; omega) _ rfl
  exact ⟨_, w', g, h1, by simpa using h2, h3, rfl, by rcases h4 with h | h; exact .inl h; exact .inr (by rw [h]; simp)⟩
structure RO (w wr : World) (out bad : List Int) (vo vb : Value) : Prop where
  o : wr.ownsRow w.heap.size 3 1 vo out.length (out.map (Value.int .i64))
  b : wr.ownsRow w.heap.size 3 1 vb bad.length (bad.map (Value.int .i64))
  ap : ∀ g, vo.ownBlock = some g → vb.ownBlock ≠ some g
  bl : Below w.heap.size w wr
theorem RO.dn {w wr : World} {out bad : List Int} {vo vb : Value} (q : RO w wr out bad vo vb) (n : Nat) : RO w (wr.drewN n) out bad vo vb := ⟨q.o, q.b, q.ap, below_dn q.bl n⟩
theorem RO.swap {w wr : World} {out bad : List Int} {vo vb : Value} (q : RO w wr out bad vo vb) : RO w wr bad out vb vo := ⟨q.b, q.o, fun g h h' => q.ap g h' h, q.bl⟩
theorem RO.app {w wr : World} {out bad : List Int} {vo vb : Value} (q : RO w wr out bad vo vb) (x : Int) (hn : out.length ≤ 1000000) :
    ∃ vo' w', (Builtin.append_ #[60, 60] 60 #[vo, .slice (some ⟨wr.heap.size, 0, none⟩) 1 1]).run Tryz.prog (wr.alloc (.cells #[.int .i64 x] 3)) = .ok vo' w' ∧ RO w w' (out ++ [x]) bad vo' vb := by
  obtain ⟨vo', w', g, h1, h2, h3, h4, h5⟩ := app_int_l wr w.heap.size vo out.length out q.o x (by omega) q.bl.size
  have hba := (Below.refl wr.heap.size wr).alloc (Nat.le_refl _) (.cells #[.int .i64 x] 3)
  have hob := q.o.alloc (.cells #[.int .i64 x] 3)
  have hbb := q.b.alloc (.cells #[.int .i64 x] 3)
  refine ⟨vo', w', h1, ⟨by rw [List.length_append]; exact h2, hbb.kept h3 ?_, ?_, (q.bl.trans (hba.mono q.bl.size)).trans (ownBelow hob h3 (Nat.le_refl _) (by simp; exact Nat.le_succ_of_le q.bl.size))⟩⟩
  · cases hv : vb.ownBlock with
    | none => exact .inl rfl
    | some k =>
      refine .inr fun e => ?_
      exact q.ap k e.symm hv
  · intro g' hg' hb'
    rw [h4] at hg'
    injection hg' with hg'
    subst hg'
    rcases h5 with h5 | h5
    · exact q.ap g h5 hb'
    · have := (q.b.lt g hb').2
      omega
set_option maxRecDepth 100000 in
set_option maxHeartbeats 8000000 in
theorem ref03_Decode (big : Bool) (s : ByteArray) (w : World) (hs : s.size ≤ 100000) :
    Calls Tryz.prog 41 #[.string s, .bool big] w fun e w' => ∃ vb, e = .returned (.tuple #[.string (textS (dW big 0 (nums s)).1), vb]) ∧ Reads w'.heap.size w' vb ((dW big 0 (nums s)).2.map (Value.int .i64)) ∧ Below w.heap.size w w' := by
  obtain ⟨D, hD⟩ : ∃ D, dW big 0 (nums s) = D := ⟨_, rfl⟩
  rw [hD]
  have HD := Lib.hid hD
  clear hD
  go_enter Tryz.func41, Tryz.ntmps41
  go_wp2_with fail
  go_loopw [6, 7, 8] (fun vo vb i wr => ∃ (k : Nat) (out bad : List Int), i = .int .i64 k ∧ k ≤ s.size ∧ out.length ≤ k ∧ bad.length ≤ k ∧ out ++ (dW big k ((nums s).drop k)).1 = D.1 ∧ bad ++ (dW big k ((nums s).drop k)).2 = D.2 ∧ RO w wr out bad vo vb) (fun _ _ i _ => s.size - (intOf i).toNat)
  case atStart => exact ⟨0, [], [], rfl, by omega, by simp, by simp, by rw [List.drop_zero, HD.out]; rfl, by rw [List.drop_zero, HD.out]; rfl, ⟨World.ownsRow_nil _ _ _ _, World.ownsRow_nil _ _ _ _, by rintro g ⟨⟩, Below.refl _ _⟩⟩
  case round =>
    obtain ⟨k, out, bad, rfl, hk, hol, hbl, ho, hbd, q⟩ := hrel
    by_cases hk1 : k < s.size
    · have hd5 := decide_eq_true (show (k : Int) < (s.size : Int) by omega)
      by_cases hlt : k + 1 < s.size
      · have hd1 : ((k : Int) + 1 == (s.size : Int)) = false := by simp; omega
        have hdr := nums_drop s k (by omega)
        have hdr1 := nums_drop s (k + 1) hlt
        obtain ⟨x, hx⟩ : ∃ x, s[k].toNat = x := ⟨_, rfl⟩
        obtain ⟨y, hy⟩ : ∃ y, s[k + 1].toNat = y := ⟨_, rfl⟩
        have hx256 : x < 256 := by rw [← hx]; exact s[k].toBitVec.isLt
        have hy256 : y < 256 := by rw [← hy]; exact s[k + 1].toBitVec.isLt
        obtain ⟨u, hu⟩ : ∃ u, unitN big x y = u := ⟨_, rfl⟩
        have hu0 := unit_lo big (x := (x : Int)) (y := (y : Int)) (by omega) (by omega)
        rw [hu] at hu0
        obtain ⟨hu1, hu2⟩ := hu0
        have HU := fun w => ref03_unit big s k k rfl w hlt (by omega) x y hx hy u hu
        rw [hx] at hdr
        rw [hy] at hdr1
        rw [hdr, hdr1] at ho hbd
        clear hdr hdr1 hx hy
        have hd2 : ((x : Int) :: (y : Int) :: (nums s).drop (k + 1 + 1)).drop 2 = (nums s).drop (k + 2) := rfl
        cases hH : isHi u with
        | true =>
          have HH := Lib.hid hH
          by_cases h4 : k + 3 < s.size
          · have hd3 := decide_eq_true (show (k : Int) + 3 < (s.size : Int) by omega)
            have hdr2 := nums_drop s (k + 2) (by omega)
            have hdr3 := nums_drop s (k + 3) h4
            obtain ⟨p, hp⟩ : ∃ p, s[k + 2].toNat = p := ⟨_, rfl⟩
            obtain ⟨r, hr⟩ : ∃ r, s[k + 3].toNat = r := ⟨_, rfl⟩
            have hp256 : p < 256 := by rw [← hp]; exact s[k + 2].toBitVec.isLt
            have hr256 : r < 256 := by rw [← hr]; exact s[k + 3].toBitVec.isLt
            obtain ⟨lv, hlv⟩ : ∃ lv, unitN big p r = lv := ⟨_, rfl⟩
            have hlv0 := unit_lo big (x := (p : Int)) (y := (r : Int)) (by omega) (by omega)
            rw [hlv] at hlv0
            obtain ⟨hlv1, hlv2⟩ := hlv0
            have HU2 := fun w => ref03_unit big s (k + 2) ((k : Int) + 2) (by omega) w h4 (by omega) p r hp hr lv hlv
            rw [hp] at hdr2
            rw [hr] at hdr3
            cases hL : isLo lv with
            | true =>
              have HL := Lib.hid hL
              have ST : step16 big x y ((nums s).drop (k + 1 + 1)) = (pairN u lv, 4, true) := by
                rw [show k + 1 + 1 = k + 2 from rfl, hdr2, hdr3]
                unfold step16
                simp only
                rw [hu, hlv, if_pos hH, if_pos hL]
              have hd4 : ((x : Int) :: (y : Int) :: (nums s).drop (k + 1 + 1)).drop 4 = (nums s).drop (k + 4) := by
                rw [show k + 1 + 1 = k + 2 from rfl, hdr2, hdr3]
                rfl
              rw [dW_step big k x y _ ST] at ho hbd
              simp only [if_true] at ho hbd
              rw [hd4] at ho hbd
              have HO := Lib.hid ho
              have HBD := Lib.hid hbd
              have hpn : pairN u lv = 65536 + (u - 55296) * 1024 + lv - 56320 := by unfold pairN; omega
              rw [hpn] at HO
              clear ho hbd ST hd4 hd2 hdr2 hdr3 hp hr hH hL hu hlv hpn
              go_wp2_with fail
              refine (HU _).mono ?_
              rintro e w2 ⟨rfl, m1, rfl⟩
              go_wp2_with fail
              refine (ref03_high u _).mono ?_
              rw [HH.out]
              rintro e w3 ⟨rfl, rfl⟩
              go_wp2_with fail
              refine (HU2 _).mono ?_
              rintro e w2 ⟨rfl, m2, rfl⟩
              go_wp2_with fail
              refine (ref03_low lv _).mono ?_
              rw [HL.out]
              rintro e w3 ⟨rfl, rfl⟩
              go_wp2_with fail
              refine (HU2 _).mono ?_
              rintro e w2 ⟨rfl, m3, rfl⟩
              obtain ⟨vo', w7, hr1, q7⟩ := (q.dn (m1 + m2 + m3)).app (65536 + (u - 55296) * 1024 + lv - 56320) (by omega)
              have HA := Lib.hid hr1
              obtain ⟨va7, vl7, vc7, rfl⟩ := own_slice q7.o
              clear hr1
              go_wp2_with (at_builtin; refine wpList_append_run rfl _ _ _ _ rfl _ _ rfl rfl _ _ HA.out ?_)
              exact ⟨⟨k + 4, out ++ [65536 + (u - 55296) * 1024 + lv - 56320], bad, by go_num, by omega, by simp; omega, by omega, by rw [List.append_assoc]; exact HO.out, HBD.out, q7⟩, by simp [intOf]; omega⟩
            | false =>
              have HL := Lib.hid hL
              have ST : step16 big x y ((nums s).drop (k + 1 + 1)) = (65533, 2, false) := by
                rw [show k + 1 + 1 = k + 2 from rfl, hdr2, hdr3]
                unfold step16
                simp only
                rw [hu, hlv, if_pos hH, if_neg (by rw [hL]; decide)]
              rw [dW_step big k x y _ ST] at ho hbd
              simp only [if_neg (show ¬ (false = true) by decide)] at ho hbd
              rw [hd2] at ho hbd
              have HO := Lib.hid ho
              have HBD := Lib.hid hbd
              clear ho hbd ST hd2 hdr2 hdr3 hp hr hH hL hu hlv
              go_wp2_with fail
              refine (HU _).mono ?_
              rintro e w2 ⟨rfl, m1, rfl⟩
              go_wp2_with fail
              refine (ref03_high u _).mono ?_
              rw [HH.out]
              rintro e w3 ⟨rfl, rfl⟩
              go_wp2_with fail
              refine (HU2 _).mono ?_
              rintro e w2 ⟨rfl, m2, rfl⟩
              go_wp2_with fail
              refine (ref03_low lv _).mono ?_
              rw [HL.out]
              rintro e w3 ⟨rfl, rfl⟩
              go_wp2_with fail
              refine (ref03_high u _).mono ?_
              rw [HH.out]
              rintro e w3 ⟨rfl, rfl⟩
              obtain ⟨vb', w7, hr1, q7⟩ := (q.dn (m1 + m2)).swap.app (k : Int) (by omega)
              have HA := Lib.hid hr1
              obtain ⟨va7, vl7, vc7, rfl⟩ := own_slice q7.o
              obtain ⟨vo', w8, hr2, q8⟩ := q7.swap.app 65533 (by omega)
              have HA2 := Lib.hid hr2
              obtain ⟨va8, vl8, vc8, rfl⟩ := own_slice q8.o
              clear hr1 hr2
              go_wp2_with (at_builtin; first | (refine wpList_append_run rfl _ _ _ _ rfl _ _ rfl rfl _ _ HA.out ?_) | (refine wpList_append_run rfl _ _ _ _ rfl _ _ rfl rfl _ _ HA2.out ?_))
              exact ⟨⟨k + 2, out ++ [65533], bad ++ [(k : Int)], by go_num, by omega, by simp; omega, by simp; omega, by rw [List.append_assoc]; exact HO.out, by rw [List.append_assoc]; exact HBD.out, q8⟩, by simp [intOf]; omega⟩
          · have hd3 := decide_eq_false (show ¬ (k : Int) + 3 < (s.size : Int) by omega)
            have ST : step16 big x y ((nums s).drop (k + 1 + 1)) = (65533, 2, false) := by
              unfold step16
              rw [hu, if_pos hH]
              cases hdd : (nums s).drop (k + 1 + 1) with
              | nil => rfl
              | cons p r =>
                cases r with
                | nil => rfl
                | cons q' r =>
                  have := congrArg List.length hdd
                  rw [List.length_drop, nums_length] at this
                  simp only [List.length_cons] at this
                  omega
            rw [dW_step big k x y _ ST] at ho hbd
            simp only [if_neg (show ¬ (false = true) by decide)] at ho hbd
            rw [hd2] at ho hbd
            have HO := Lib.hid ho
            have HBD := Lib.hid hbd
            clear ho hbd ST hd2 hH hu
            go_wp2_with fail
            refine (HU _).mono ?_
            rintro e w2 ⟨rfl, m1, rfl⟩
            go_wp2_with fail
            refine (ref03_high u _).mono ?_
            rw [HH.out]
            rintro e w3 ⟨rfl, rfl⟩
            go_wp2_with fail
            refine (ref03_high u _).mono ?_
            rw [HH.out]
            rintro e w3 ⟨rfl, rfl⟩
            obtain ⟨vb', w7, hr1, q7⟩ := (q.dn m1).swap.app (k : Int) (by omega)
            have HA := Lib.hid hr1
            obtain ⟨va7, vl7, vc7, rfl⟩ := own_slice q7.o
            obtain ⟨vo', w8, hr2, q8⟩ := q7.swap.app 65533 (by omega)
            have HA2 := Lib.hid hr2
            obtain ⟨va8, vl8, vc8, rfl⟩ := own_slice q8.o
            clear hr1 hr2
            go_wp2_with (at_builtin; first | (refine wpList_append_run rfl _ _ _ _ rfl _ _ rfl rfl _ _ HA.out ?_) | (refine wpList_append_run rfl _ _ _ _ rfl _ _ rfl rfl _ _ HA2.out ?_))
            exact ⟨⟨k + 2, out ++ [65533], bad ++ [(k : Int)], by go_num, by omega, by simp; omega, by simp; omega, by rw [List.append_assoc]; exact HO.out, by rw [List.append_assoc]; exact HBD.out, q8⟩, by simp [intOf]; omega⟩
        | false =>
          have HH := Lib.hid hH
          cases hL : isLo u with
          | true =>
            have HL := Lib.hid hL
            have ST : step16 big x y ((nums s).drop (k + 1 + 1)) = (65533, 2, false) := by
              unfold step16
              rw [hu, if_neg (by rw [hH]; decide), if_pos hL]
            rw [dW_step big k x y _ ST] at ho hbd
            simp only [if_neg (show ¬ (false = true) by decide)] at ho hbd
            rw [hd2] at ho hbd
            have HO := Lib.hid ho
            have HBD := Lib.hid hbd
            clear ho hbd ST hd2 hH hL hu
            go_wp2_with fail
            refine (HU _).mono ?_
            rintro e w2 ⟨rfl, m1, rfl⟩
            go_wp2_with fail
            refine (ref03_high u _).mono ?_
            rw [HH.out]
            rintro e w3 ⟨rfl, rfl⟩
            go_wp2_with fail
            refine (ref03_high u _).mono ?_
            rw [HH.out]
            rintro e w3 ⟨rfl, rfl⟩
            go_wp2_with fail
            refine (ref03_low u _).mono ?_
            rw [HL.out]
            rintro e w3 ⟨rfl, rfl⟩
            obtain ⟨vb', w7, hr1, q7⟩ := (q.dn m1).swap.app (k : Int) (by omega)
            have HA := Lib.hid hr1
            obtain ⟨va7, vl7, vc7, rfl⟩ := own_slice q7.o
            obtain ⟨vo', w8, hr2, q8⟩ := q7.swap.app 65533 (by omega)
            have HA2 := Lib.hid hr2
            obtain ⟨va8, vl8, vc8, rfl⟩ := own_slice q8.o
            clear hr1 hr2
            go_wp2_with (at_builtin; first | (refine wpList_append_run rfl _ _ _ _ rfl _ _ rfl rfl _ _ HA.out ?_) | (refine wpList_append_run rfl _ _ _ _ rfl _ _ rfl rfl _ _ HA2.out ?_))
            exact ⟨⟨k + 2, out ++ [65533], bad ++ [(k : Int)], by go_num, by omega, by simp; omega, by simp; omega, by rw [List.append_assoc]; exact HO.out, by rw [List.append_assoc]; exact HBD.out, q8⟩, by simp [intOf]; omega⟩
          | false =>
            have HL := Lib.hid hL
            have ST : step16 big x y ((nums s).drop (k + 1 + 1)) = (u, 2, true) := by
              unfold step16
              rw [hu, if_neg (by rw [hH]; decide), if_neg (by rw [hL]; decide)]
            rw [dW_step big k x y _ ST] at ho hbd
            simp only [if_true] at ho hbd
            rw [hd2] at ho hbd
            have HO := Lib.hid ho
            have HBD := Lib.hid hbd
            clear ho hbd ST hd2 hH hL hu
            go_wp2_with fail
            refine (HU _).mono ?_
            rintro e w2 ⟨rfl, m1, rfl⟩
            go_wp2_with fail
            refine (ref03_high u _).mono ?_
            rw [HH.out]
            rintro e w3 ⟨rfl, rfl⟩
            go_wp2_with fail
            refine (ref03_high u _).mono ?_
            rw [HH.out]
            rintro e w3 ⟨rfl, rfl⟩
            go_wp2_with fail
            refine (ref03_low u _).mono ?_
            rw [HL.out]
            rintro e w3 ⟨rfl, rfl⟩
            obtain ⟨vo', w7, hr1, q7⟩ := (q.dn m1).app u (by omega)
            have HA := Lib.hid hr1
            obtain ⟨va7, vl7, vc7, rfl⟩ := own_slice q7.o
            clear hr1
            go_wp2_with (at_builtin; refine wpList_append_run rfl _ _ _ _ rfl _ _ rfl rfl _ _ HA.out ?_)
            exact ⟨⟨k + 2, out ++ [u], bad, by go_num, by omega, by simp; omega, by omega, by rw [List.append_assoc]; exact HO.out, HBD.out, q7⟩, by simp [intOf]; omega⟩
      · have hd1 : ((k : Int) + 1 == (s.size : Int)) = true := by simp; omega
        obtain ⟨x, hx⟩ : ∃ x : Int, (nums s).drop k = [x] := ⟨_, by rw [nums_drop s k hk1, nums_drop_end s (k + 1) (by omega)]⟩
        rw [hx, dW_one] at ho hbd
        obtain ⟨vo', w7, hr1, q7⟩ := q.app 65533 (by omega)
        have HA := Lib.hid hr1
        obtain ⟨va7, vl7, vc7, rfl⟩ := own_slice q7.o
        obtain ⟨vb', w9, hr2, q8⟩ := q7.swap.app (k : Int) (by omega)
        have HA2 := Lib.hid hr2
        obtain ⟨va8, vl8, vc8, rfl⟩ := own_slice q8.o
        have qf := q8.swap
        have HO := Lib.hid (show textS D.1 = textS (out ++ [65533]) by rw [← ho])
        have HBD := Lib.hid hbd
        have ol : (out ++ [(65533 : Int)]).length ≤ 1000000 := by simp; omega
        have bl2 : (bad ++ [(k : Int)]).length ≤ 1000000 := by simp; omega
        clear hr1 hr2 ho hbd hx q7 q8
        go_wp2_with (at_builtin; first | (refine wpList_append_run rfl _ _ _ _ rfl _ _ rfl rfl _ _ HA.out ?_) | (refine wpList_append_run rfl _ _ _ _ rfl _ _ rfl rfl _ _ HA2.out ?_))
        refine (ref02_Text _ _ w9.heap.size _ (Reads.of_own qf.o (by unfold maxLen; omega)) (Nat.le_refl _) (by omega)).mono ?_
        rintro e w11 ⟨rfl, hb11⟩
        go_wp2_with fail
        go_ret2
        refine ⟨_, by rw [HO.out]; rfl, ?_, qf.bl.trans (hb11.mono qf.bl.size)⟩
        rw [← HBD.out]
        exact ((Reads.of_own qf.b (by unfold maxLen; omega)).below hb11 (Nat.le_refl _)).mono hb11.size
    · have hd5 := decide_eq_false (show ¬ (k : Int) < (s.size : Int) by omega)
      rw [nums_drop_end s k (by omega), dW_nil] at ho hbd
      simp only [List.append_nil] at ho hbd
      have qf := q
      obtain ⟨va7, vl7, vc7, rfl⟩ := own_slice qf.o
      obtain ⟨va8, vl8, vc8, rfl⟩ := own_slice qf.b
      have HO := Lib.hid (show textS D.1 = textS out by rw [← ho])
      have HBD := Lib.hid hbd
      clear ho hbd
      go_wp2_with fail
      refine (ref02_Text _ _ wr.heap.size _ (Reads.of_own qf.o (by unfold maxLen; omega)) (Nat.le_refl _) (by omega)).mono ?_
      rintro e w11 ⟨rfl, hb11⟩
      go_wp2_with fail
      go_ret2
      refine ⟨_, by rw [HO.out]; rfl, ?_, qf.bl.trans (hb11.mono qf.bl.size)⟩
      rw [← HBD.out]
      exact ((Reads.of_own qf.b (by unfold maxLen; omega)).below hb11 (Nat.le_refl _)).mono hb11.size
end Go.Proofs.YthahfoliblgegaaGreatDoor
