/-
  Parts EvC Bd EvD EvE EvF EvG EvN of this seat's texts, in one file: contracts of functions that the law reaches, and the plain laws behind them. No condition.
-/
import Derived.Test.YteefopeclfojiaaG2
import Derived.RangeFuncOwn
import Derived.Test.YteefopeclfojiaaG1
import Derived.Lib.Builder
import Derived.Lib.UnsafeStr
import Derived.Laws.Rows
import Derived.Lib.AppendStr
import Derived.StillTailTactics
/- 
  Layer 16: the walks of events.Whole, Depth, at, End.
 -/
namespace Go.Proofs.Yteefopeclfojiaa
open Go.RowKit
set_option maxRecDepth 100000 in
theorem events_Whole (B : Nat) (es : List Evt) (v : Value) (w : World) (hr : EvsR B w v es) (hB : B ≤ w.heap.size) (hn : es.length ≤ 1000000) (hz : ∀ e ∈ es, e.at_.length ≤ 140737488351232) :
    Calls Try.prog 16 #[v] w fun r w' => r = .returned (.bool (growP es).isSome) ∧ Below w.heap.size w w' := by
  have hg := events_grow B es v w hr hB hn hz
  obtain ⟨R, hR⟩ : ∃ R, growP es = R := ⟨_, rfl⟩
  rw [hR] at hg ⊢
  have H := Lib.hid hg
  clear hg hR
  cases R with
  | none =>
    go_enter Try.func16, Try.ntmps16
    go_wp2_with fail
    refine (H.out).mono ?_
    rintro r w1 ⟨rfl, hb⟩
    go_wp2_with fail
    go_ret
    exact ⟨rfl, hb⟩
  | some g =>
    go_enter Try.func16, Try.ntmps16
    go_wp2_with fail
    refine (H.out).mono ?_
    rintro r w1 ⟨p, mb, rfl, hb, -⟩
    go_wp2_with fail
    go_ret
    exact ⟨rfl, hb⟩
/-- how deep events are; nothing, if they are not whole. -/
def depP (es : List Evt) : Nat := match growP es with
  | none => 0
  | some g => g.deep
set_option maxRecDepth 100000 in
theorem events_Depth (B : Nat) (es : List Evt) (v : Value) (w : World) (hr : EvsR B w v es) (hB : B ≤ w.heap.size) (hn : es.length ≤ 1000000) (hz : ∀ e ∈ es, e.at_.length ≤ 140737488351232) :
    Calls Try.prog 20 #[v] w fun r w' => r = .returned (.int .i64 (depP es)) ∧ Below w.heap.size w w' := by
  have hg := events_grow B es v w hr hB hn hz
  unfold depP
  obtain ⟨R, hR⟩ : ∃ R, growP es = R := ⟨_, rfl⟩
  rw [hR] at hg ⊢
  have H := Lib.hid hg
  clear hg hR
  cases R with
  | none =>
    go_enter Try.func20, Try.ntmps20
    go_wp2_with fail
    refine (H.out).mono ?_
    rintro r w1 ⟨rfl, hb⟩
    go_wp2_with fail
    go_ret
    exact ⟨rfl, hb⟩
  | some g =>
    go_enter Try.func20, Try.ntmps20
    go_wp2_with fail
    refine (H.out).mono ?_
    rintro r w1 ⟨p, mb, rfl, hb, ht, -⟩
    have hc : _ = some (Value.int .i64 g.deep) := ht.cell 2 rfl
    go_wp2_with fail
    go_ret
    exact ⟨rfl, hb⟩
/-- an element's tree; none: there is no element at the place, or events are not whole. -/
def atP (es : List Evt) (i : Int) : Option Gr := if 0 ≤ i ∧ i < es.length ∧ (es[i.toNat]?).map Evt.k = some 0 then growP es else none
set_option maxRecDepth 100000 in
set_option maxHeartbeats 2000000 in
theorem events_at (B : Nat) (es : List Evt) (v : Value) (i : Int) (w : World) (hr : EvsR B w v es) (hB : B ≤ w.heap.size) (hn : es.length ≤ 1000000) (hz : ∀ e ∈ es, e.at_.length ≤ 140737488351232) :
    Calls Try.prog 63 #[v, .int .i64 i] w fun r w' => GrowS w w' v (atP es i) r := by
  have hg := events_grow B es v w hr hB hn hz
  have hr0 := hr
  obtain ⟨avs, ⟨a, cap, rfl, -⟩, -⟩ := hr0
  obtain ⟨R, hR⟩ : ∃ R, atP es i = R := ⟨_, rfl⟩
  rw [hR]
  unfold atP at hR
  by_cases h0 : 0 ≤ i
  · obtain ⟨k, rfl⟩ : ∃ k : Nat, i = (k : Int) := ⟨i.toNat, by omega⟩
    by_cases h1 : k < es.length
    · obtain ⟨x, hx⟩ : ∃ x, es[k]? = some x := ⟨_, List.getElem?_eq_getElem h1⟩
      obtain ⟨b, off, cap', av, hv, -, c0, -⟩ := hr.get (Below.refl B w) (Nat.le_refl _) k x hx
      cases hv
      obtain ⟨n, hnn⟩ : ∃ n, es.length = n := ⟨_, rfl⟩
      rw [Int.toNat_natCast, hx] at hR
      rw [hnn] at hg hR h1 ⊢
      by_cases hk : x.k = 0
      · rw [if_pos ⟨h0, by omega, by rw [← hk]; rfl⟩] at hR
        rw [hR] at hg
        have q0 : (x.k != 0) = false := by simp [hk]
        have H := Lib.hid hg
        clear hg hR hr hx hnn hk
        go_enter Try.func63, Try.ntmps63
        go_wp2_with fail
        refine (H.out).mono ?_
        rintro r w1 hg
        cases R with
        | none =>
          obtain ⟨rfl, hb⟩ := hg
          go_wp2_with fail
          go_ret
          exact ⟨rfl, hb⟩
        | some g =>
          obtain ⟨p, mb, rfl, hrest⟩ := hg
          have HR := Lib.hid hrest
          clear hrest
          go_wp2_with fail
          go_ret
          exact ⟨p, mb, rfl, HR.out⟩
      · rw [if_neg (fun h => hk (by have := h.2.2; injection this))] at hR
        subst hR
        have q0 : (x.k != 0) = true := by simpa using hk
        clear hg hr hx hnn hk
        go_enter Try.func63, Try.ntmps63
        go_wp2_with fail
        go_ret
        exact ⟨rfl, Below.refl _ _⟩
    · rw [if_neg (fun h => h1 (by omega))] at hR
      subst hR
      have q0 := decide_eq_true (show es.length ≤ k by omega)
      clear hg hr
      go_enter Try.func63, Try.ntmps63
      go_wp2_with fail
      go_ret
      exact ⟨rfl, Below.refl _ _⟩
  · rw [if_neg (fun h => h0 h.1)] at hR
    subst hR
    have q0 := decide_eq_true (show i < 0 by omega)
    clear hg hr
    go_enter Try.func63, Try.ntmps63
    go_wp2_with fail
    go_ret
    exact ⟨rfl, Below.refl _ _⟩
/-- where an element's end is, as the map tells it. -/
def endV (g : Gr) (i : Int) : Value := (aGet g.ends i).getD (.int .i64 0)
theorem zInt (w : World) : (zeroValue 3).run Try.prog w = .ok (.int .i64 0) w := by kernel_rfl
theorem ends_look {W : World} {b : Nat} {g : Gr} (h : IMap W .i64 b g.ends) (i : Int) :
    (Instr.lookup 80 (.map (some b)) (.int .i64 i) false).run Try.prog W = .ok (endV g i) W :=
  (h.lookup (t := 80) Try.underlying80 Try.underlying3 (.int .i64 0) (zInt W) i).2
/-- what End comes to. -/
def EndS (w w' : World) (R : Option Gr) (i : Int) (e : Ending) : Prop := Below w.heap.size w w' ∧ match R with
  | none => e = .returned (.tuple #[.int .i64 0, .bool false])
  | some g => e = .returned (.tuple #[endV g i, .bool true])
set_option maxRecDepth 100000 in
theorem events_End (B : Nat) (es : List Evt) (v : Value) (i : Int) (w : World) (hr : EvsR B w v es) (hB : B ≤ w.heap.size) (hn : es.length ≤ 1000000) (hz : ∀ e ∈ es, e.at_.length ≤ 140737488351232) :
    Calls Try.prog 19 #[v, .int .i64 i] w fun r w' => EndS w w' (atP es i) i r := by
  have hg := events_at B es v i w hr hB hn hz
  obtain ⟨R, hR⟩ : ∃ R, atP es i = R := ⟨_, rfl⟩
  rw [hR] at hg ⊢
  have H := Lib.hid hg
  clear hg hR
  cases R with
  | none =>
    go_enter Try.func19, Try.ntmps19
    go_wp2_with fail
    refine (H.out).mono ?_
    rintro r w1 ⟨rfl, hb⟩
    go_wp2_with fail
    go_ret2
    exact ⟨hb, rfl⟩
  | some g =>
    go_enter Try.func19, Try.ntmps19
    go_wp2_with fail
    refine (H.out).mono ?_
    rintro r w1 ⟨p, mb, rfl, hb, ht, hm, -⟩
    have hc : _ = some (Value.map (some mb)) := ht.cell 1 rfl
    have hlk := ends_look hm i
    obtain ⟨ev, hev⟩ : ∃ e, endV g i = e := ⟨_, rfl⟩
    rw [hev] at hlk
    have HEV := Lib.hid hev
    clear hev hm ht
    go_wp2_with fail
    go_ret2
    refine ⟨hb, ?_⟩
    show _ = Ending.returned (.tuple #[endV g i, .bool true])
    rw [HEV.out]
    rfl
end Go.Proofs.Yteefopeclfojiaa
/- 
  A strings.Builder of the call's own: copyCheck, WriteString, String.
 -/
namespace Go.Proofs.Yteefopeclfojiaa
open Go.RowKit
/-- the builder in block b holds the bytes xs, in the row v, above base. -/
structure BdAt (w : World) (b base : Nat) (v : Value) (xs : List Int) : Prop where
  blk : ∃ p, (p = .pointer none ∨ p = .pointer (some ⟨b, 0, none⟩)) ∧ w.heap[b]? = some (.cells #[p, v] 114 (0, 0))
  own : w.ownsRow base 5 1 v xs.length (xs.map (Value.int .u8))
  lt : b < base
theorem bdSize : (Try.prog.info? 114).map (·.size) = some 2 := by kernel_rfl
theorem bdLies : liesAt Try.prog Try.prog.depth 114 (2 / Try.prog.cellsOf 114) 0 114 1 = true := by kernel_rfl
set_option maxRecDepth 100000 in
theorem bd_fresh (b : Nat) (v : Value) (w : World) (hb : w.heap[b]? = some (.cells #[.pointer none, v] 114 (0, 0))) :
    Calls Try.prog 123 #[.pointer (some ⟨b, 0, none⟩)] w fun e w' => e = .returned (.tuple #[]) ∧ w' = w.setCell ⟨b, 0, none⟩ (.pointer (some ⟨b, 0, none⟩)) := by
  obtain ⟨j, hj, hjs⟩ := Option.map_eq_some_iff.1 bdSize
  have h0 : w.cell? ⟨b, 0, none⟩ = some (.pointer none) := by rw [cell_of_row w b 0 _ _ _ hb]; rfl
  have hsh : w.shape? b = some (114, 2) := by simp [World.shape?, hb]
  have hfz : w.frozen? ⟨b, 0, none⟩ = false := by simp [World.frozen?, hb]
  go_enter Try.func123, Try.ntmps123
  go_wp2
  rw [Lib.run_to_unsafe w ⟨b, 0, none⟩ Try.underlying111 Try.underlying138 hj (by rw [hjs]; decide) hsh (Nat.zero_lt_succ 1)]
  simp only [Result.andThen]
  rw [Oper.upon_value]
  go_wp2
  rw [run_callFunc_extern Try.func129 (by kernel_rfl) (by kernel_rfl) (by kernel_rfl) (e := Extern.AbiNoEscape.same) (by kernel_rfl)]
  rw [Lib.run_noEscape]
  simp only [Result.andThen]
  rw [Oper.upon_value]
  go_wp2
  rw [Lib.run_from_unsafe w ⟨b, 0, none⟩ Try.underlying138 Try.underlying111 hj hsh bdLies]
  simp only [Result.andThen]
  rw [Oper.upon_value]
  go_wp2
  go_end0
  exact ⟨rfl, rfl⟩
set_option maxRecDepth 100000 in
theorem bd_used (b : Nat) (v : Value) (w : World) (hb : w.heap[b]? = some (.cells #[.pointer (some ⟨b, 0, none⟩), v] 114 (0, 0))) :
    Calls Try.prog 123 #[.pointer (some ⟨b, 0, none⟩)] w fun e w' => e = .returned (.tuple #[]) ∧ w' = w := by
  obtain ⟨j, hj, hjs⟩ := Option.map_eq_some_iff.1 bdSize
  have h0 : w.cell? ⟨b, 0, none⟩ = some (.pointer (some ⟨b, 0, none⟩)) := by rw [cell_of_row w b 0 _ _ _ hb]; rfl
  go_enter Try.func123, Try.ntmps123
  go_wp2
  rw [Lib.run_neq_ptr_same w _ Try.underlying111 hj]
  simp only [Result.andThen]
  rw [Oper.upon_value]
  go_wp2
  go_end0
  exact ⟨rfl, rfl⟩
theorem bd_check (b : Nat) (p v : Value) (hp : p = .pointer none ∨ p = .pointer (some ⟨b, 0, none⟩)) (w : World) (hb : w.heap[b]? = some (.cells #[p, v] 114 (0, 0))) :
    Calls Try.prog 123 #[.pointer (some ⟨b, 0, none⟩)] w fun e w' => e = .returned (.tuple #[]) ∧ w'.heap[b]? = some (.cells #[.pointer (some ⟨b, 0, none⟩), v] 114 (0, 0)) ∧ w.grownBy w' (some b) := by
  rcases hp with rfl | rfl
  · refine (bd_fresh b v w hb).mono ?_
    rintro e w' ⟨rfl, rfl⟩
    refine ⟨rfl, ?_, ⟨rfl, rfl, rfl, by simp [World.setCell], fun k _ hne => Below.heap_setCell w ⟨b, 0, none⟩ _ k (fun e => hne (by rw [e]))⟩⟩
    rw [heap_setCell_same w b 0 _ _ _ hb]
    rfl
  · refine (bd_used b v w hb).mono ?_
    rintro e w' ⟨rfl, rfl⟩
    exact ⟨rfl, hb, World.grownBy.refl _ _⟩
theorem far_own {w w' : World} {base : Nat} {e : TypeId} {size : Nat} {v : Value} {n : Nat} {xs : List Value} (h : w.ownsRow base e size v n xs) {p : Nat} (hp : p < base) (hg : w.grownBy w' (some p)) : w'.ownsRow base e size v n xs := by
  refine h.kept hg ?_
  cases hv : v.ownBlock with
  | none => exact .inl rfl
  | some k =>
    refine .inr fun e => ?_
    injection e with e
    have := (h.lt k hv).1
    omega
/-- rows of other elements are other rows. -/
theorem rows_apart {w w' : World} {base base' : Nat} {e e' : TypeId} {size size' : Nat} {v v' : Value} {n n' : Nat} {xs xs' : List Value} (h : w.ownsRow base e size v n xs) (h' : w.ownsRow base' e' size' v' n' xs') (hne : e' ≠ e) (hg : w.grownBy w' v.ownBlock) : w'.ownsRow base' e' size' v' n' xs' := by
  refine h'.kept hg ?_
  rcases h'.2 with ⟨rfl, _⟩ | ⟨g', cap', cur', rfl, _, hg', _⟩
  · exact .inl rfl
  · refine .inr fun e0 => ?_
    rcases h.2 with ⟨rfl, _⟩ | ⟨g, cap, cur, rfl, _, hgb, _⟩
    · cases e0
    · injection e0 with e0
      subst e0
      rw [hg'] at hgb
      injection hgb with hgb
      injection hgb with _ h2 _
      exact hne h2
/-- the row's block is changed, and new ones are laid: seen from the rows of other elements above. -/
def Others (w w' : World) (b : Nat) : Prop := ∀ (base' : Nat) (e' : TypeId) (size' : Nat) (v' : Value) (n' : Nat) (xs' : List Value), e' ≠ 5 → b < base' → w.ownsRow base' e' size' v' n' xs' → w'.ownsRow base' e' size' v' n' xs'
set_option maxRecDepth 100000 in
theorem bd_write (b base : Nat) (v : Value) (xs : List Int) (s : ByteArray) (w : World) (h : BdAt w b base v xs) (hn : xs.length + s.size < 1099511627776) (hbase : base ≤ w.heap.size) :
    Calls Try.prog 97 #[.pointer (some ⟨b, 0, none⟩), .string s] w fun e w' => e = .returned (.tuple #[.int .i64 s.size, .nilIface]) ∧ (∃ v', BdAt w' b base v' (xs ++ nums s)) ∧ Below b w w' ∧ base ≤ w'.heap.size ∧ Others w w' b := by
  obtain ⟨p, hp, hb⟩ := h.blk
  have hlt := h.lt
  go_enter Try.func97, Try.ntmps97
  go_wp2_with fail
  refine (bd_check b p v hp w hb).mono ?_
  rintro e w1 ⟨rfl, hb1, hg1⟩
  have hown := far_own h.own hlt hg1
  have hs1 : base ≤ w1.heap.size := Nat.le_trans hbase hg1.size
  obtain ⟨v', w2, h1, h2, h3⟩ := app_str_g w1 base v xs.length xs hown s hn hs1
  have h4 := ownBelow hown h3 (Nat.le_refl _) hs1
  obtain ⟨va, vl, vc, rfl⟩ := own_slice hown
  obtain ⟨va', vl', vc', rfl⟩ := own_slice h2
  have hb2 := (h4.block b hlt).trans hb1
  have hc1 : w1.cell? ⟨b, 1, none⟩ = some (.slice va vl vc) := by rw [cell_of_row w1 b 1 _ _ _ hb1]; rfl
  have hc2 : w2.cell? ⟨b, 1, none⟩ = some (.slice va vl vc) := by rw [cell_of_row w2 b 1 _ _ _ hb2]; rfl
  have hf2 : w2.frozen? ⟨b, 1, none⟩ = false := by simp [World.frozen?, hb2]
  have hb3 := heap_setCell_same w2 b 1 _ _ (.slice va' vl' vc') hb2
  have hgr : w2.grownBy (w2.setCell ⟨b, 1, none⟩ (.slice va' vl' vc')) (some b) := ⟨rfl, rfl, rfl, by simp [World.setCell], fun k _ hne => Below.heap_setCell w2 ⟨b, 1, none⟩ _ k (fun e => hne (by rw [e]))⟩
  have hown3 := far_own h2 hlt hgr
  have HA := Lib.hid h1
  have OUT : (∃ v', BdAt (w2.setCell ⟨b, 1, none⟩ (.slice va' vl' vc')) b base v' (xs ++ nums s)) ∧ Below b w (w2.setCell ⟨b, 1, none⟩ (.slice va' vl' vc')) ∧ base ≤ (w2.setCell ⟨b, 1, none⟩ (.slice va' vl' vc')).heap.size ∧ Others w (w2.setCell ⟨b, 1, none⟩ (.slice va' vl' vc')) b := by
    refine ⟨⟨_, ⟨⟨_, .inr rfl, hb3⟩, ?_, hlt⟩⟩, ?_, Nat.le_trans (Nat.le_trans hs1 h4.size) hgr.size, ?_⟩
    · rw [List.length_append, nums_length, List.map_append]
      rw [← List.map_append]
      exact hown3
    · have hbA : Below b w w1 := ⟨hg1.os, hg1.tape, hg1.output, hg1.size, fun k hk => by
        rcases Nat.lt_or_ge k w.heap.size with h5 | h5
        · exact hg1.block k h5 (fun e => by injection e with e; omega)
        · omega⟩
      exact (hbA.trans (h4.mono (Nat.le_of_lt hlt))).setCell (p := ⟨b, 1, none⟩) (Nat.le_refl _) _
    · intro base' e' size' v0 n0 xs0 hne hbb hrow
      exact far_own (rows_apart hown (far_own hrow hbb hg1) hne h3) hbb hgr
  have HO := Lib.hid OUT
  clear h1 h2 h3 h4 hown hown3 hgr OUT h hb hb1 hb2 hb3
  go_wp2_with (at_builtin; refine wpList_append_run rfl _ _ _ _ rfl _ _ rfl rfl _ _ HA.out ?_)
  go_ret2
  exact ⟨rfl, HO.out⟩
theorem bd_string_nil (b base : Nat) (w : World) (h : BdAt w b base (.slice none 0 0) []) :
    Calls Try.prog 98 #[.pointer (some ⟨b, 0, none⟩)] w fun e w' => e = .returned (.string ⟨#[]⟩) ∧ Below b w w' ∧ Others w w' b ∧ KeepsOthers w w' ∧ w.grownBy w' none := by
  obtain ⟨p, hp, hb⟩ := h.blk
  have c1 : w.drew.cell? ⟨b, 1, none⟩ = some (.slice none 0 0) := by
    have : w.drew.heap[b]? = some (.cells #[p, .slice none 0 0] 114 (0, 0)) := hb
    rw [cell_of_row _ b 1 _ _ _ this]; rfl
  have hUS : ∀ W : World, (Builtin.unsafeString_ #[132, 3] 9 #[.pointer none, .int .i64 0]).run Try.prog W = .ok (.string .empty) W := fun W => Lib.run_unsafeString_none W _ _ _ _
  have hSD : (Builtin.unsafeSliceData_ #[112] 132 #[.slice none 0 0]).run Try.prog w.drew = .ok (.pointer none) w.drew := rfl
  have hb' := (Below.refl b w).drew
  clear h hb hp
  go_enter Try.func98, Try.ntmps98
  go_wp2
  go_region
  all_goals (go_wp2; go_ret; exact ⟨rfl, hb', fun _ _ _ _ _ _ _ _ hrow => hrow, ⟨Nat.le_refl _, fun _ _ h _ => h⟩, ⟨rfl, rfl, rfl, Nat.le_refl _, fun _ _ _ => rfl⟩⟩)
set_option maxRecDepth 100000 in
theorem bd_string (b base : Nat) (v : Value) (xs : List Int) (w : World) (h : BdAt w b base v xs) (hbs : isBs xs) (h0 : xs ≠ []) :
    Calls Try.prog 98 #[.pointer (some ⟨b, 0, none⟩)] w fun e w' => e = .returned (.string (strOfNums xs)) ∧ Below b w w' ∧ Others w w' b ∧ KeepsOthers w w' ∧ w.grownBy w' v.ownBlock := by
  obtain ⟨p, hp, hb⟩ := h.blk
  have hown := h.own
  have hl0 : xs.length ≠ 0 := by simpa using h0
  obtain ⟨l, hl, hret⟩ : ∃ l : List UInt8, xs = l.map (fun c => (c.toNat : Int)) ∧ (⟨l.toArray⟩ : ByteArray) = strOfNums xs := ⟨(strOfNums xs).data.toList, (nums_strOfNums xs hbs).symm, by simp⟩
  have hll : l.length = xs.length := by rw [hl, List.length_map]
  have hln : l ≠ [] := by
    intro e
    rw [e] at hll
    exact hl0 hll.symm
  obtain ⟨g, cap, cur, rfl, hbg, hg, hnc, hcm, hcs, htake⟩ : ∃ g cap cur, v = .slice (some ⟨g, 0, none⟩) xs.length cap ∧ base ≤ g ∧ w.heap[g]? = some (.cells cur 5 (0, 0)) ∧ xs.length ≤ cap ∧ cap ≤ maxLen ∧ cur.size = cap * 1 ∧ cur.toList.take (xs.length * 1) = xs.map (Value.int .u8) := by
    rcases hown.2 with ⟨_, hz⟩ | ⟨g, cap, cur, hv, r⟩
    · exact absurd hz hl0
    · exact ⟨g, cap, cur, hv, r⟩
  have hlt := h.lt
  have c1 : w.drew.cell? ⟨b, 1, none⟩ = some (.slice (some ⟨g, 0, none⟩) xs.length cap) := by
    have : w.drew.heap[b]? = some (.cells #[p, .slice (some ⟨g, 0, none⟩) xs.length cap] 114 (0, 0)) := hb
    rw [cell_of_row _ b 1 _ _ _ this]; rfl
  have hSD : (Builtin.unsafeSliceData_ #[112] 132 #[.slice (some ⟨g, 0, none⟩) xs.length cap]).run Try.prog w.drew = .ok (.pointer (some ⟨g, 0, none⟩)) w.drew :=
    Lib.run_unsafeSliceData_row _ _ _ _ _ _ (by omega)
  have hUS : (Builtin.unsafeString_ #[132, 3] 9 #[.pointer (some ⟨g, 0, none⟩), .int .i64 xs.length]).run Try.prog w.drew = .ok (.string (strOfNums xs)) (w.drew.freeze ⟨g, 0, none⟩ xs.length) := by
    rw [← hret, ← hll]
    refine Lib.run_unsafeString_row w.drew 132 3 9 5 Try.underlying132 (by kernel_rfl) g cur.size (by have hg' : w.drew.heap[g]? = some (.cells cur 5 (0, 0)) := hg; simp [World.shape?, hg']) l hln (by omega) (by unfold maxLen at hcm; omega) ?_
    intro j x hx
    exact hown.cells (g := g) rfl j (.int .u8 x.toNat) (by rw [hl, List.getElem?_map, List.getElem?_map, hx]; rfl)
  have hb' : Below b w (w.drew.freeze ⟨g, 0, none⟩ xs.length) := by
    unfold World.freeze
    rw [if_neg hl0]
    exact ⟨rfl, rfl, rfl, by simp [World.drew, -World.drew_eq], fun k hk => by
      have : g ≠ k := by omega
      simp [World.drew, -World.drew_eq, Array.getElem?_modify, this]⟩
  have hgr : w.grownBy (w.drew.freeze ⟨g, 0, none⟩ xs.length) (some g) := by
    unfold World.freeze
    rw [if_neg hl0]
    exact ⟨rfl, rfl, rfl, by simp [World.drew, -World.drew_eq], fun k _ hne => by
      have : g ≠ k := fun e => hne (by rw [e])
      simp [World.drew, -World.drew_eq, Array.getElem?_modify, this]⟩
  have hoth : Others w (w.drew.freeze ⟨g, 0, none⟩ xs.length) b := fun base' e' size' v0 n0 xs0 hne _ hrow => rows_apart hown hrow hne hgr
  have hko : KeepsOthers w (w.drew.freeze ⟨g, 0, none⟩ xs.length) := KeepsOthers.of_grownBy hgr fun j o e hj => by
    injection e with e
    subst e
    rw [hg] at hj
    cases hj
    rfl
  have HB := Lib.hid (And.intro hb' (And.intro hoth (And.intro hko (show w.grownBy (w.drew.freeze ⟨g, 0, none⟩ xs.length) (Value.slice (some ⟨g, 0, none⟩) xs.length cap).ownBlock from hgr))))
  clear h hb hp hown hb' hgr hoth hko htake hcs hg hret hl hll hln
  go_enter Try.func98, Try.ntmps98
  go_wp2
  go_region
  all_goals (go_wp2; go_ret; exact ⟨rfl, HB.out⟩)
end Go.Proofs.Yteefopeclfojiaa
/- 
  Layer 16: the walk of events.texts.
 -/
namespace Go.Proofs.Yteefopeclfojiaa
open Go.RowKit
/-- a builder that holds the bytes xs; with none it is as new. -/
def BdY (w : World) (b base : Nat) (xs : List Int) : Prop := ∃ v, BdAt w b base v xs ∧ (xs = [] → v = .slice none 0 0)
theorem BdY.new (w : World) : BdY (w.alloc (.cells #[.pointer none, .slice none 0 0] 114)) w.heap.size (w.heap.size + 1) [] :=
  ⟨_, ⟨⟨_, .inl rfl, heap_alloc_new w _⟩, World.ownsRow_nil _ _ _ _, Nat.lt_succ_self _⟩, fun _ => rfl⟩
theorem BdY.below {w w' : World} {b base : Nat} {xs : List Int} (h : BdY w b base xs) (hb : Below w.heap.size w w') : BdY w' b base xs := by
  obtain ⟨v, ⟨⟨p, hp, hk⟩, ho, hl⟩, hz⟩ := h
  have hlt : b < w.heap.size := (Array.getElem?_eq_some_iff.1 hk).1
  exact ⟨v, ⟨⟨p, hp, (hb.block b hlt).trans hk⟩, own_below ho hb (Nat.le_refl _), hl⟩, hz⟩
theorem app_str_y (wr : World) (base : Nat) (v : Value) (n : Nat) (xs : List Int) (hown : wr.ownsRow base 5 1 v n (xs.map (Value.int .u8))) (s : ByteArray) (hn : n + s.size < 140737488355329) (hbase : base ≤ wr.heap.size) :
    ∃ v' w', (Builtin.append_ #[112, 9] 112 #[v, .string s]).run Try.prog wr = .ok v' w' ∧
      w'.ownsRow base 5 1 v' (n + s.size) ((xs ++ s.data.toList.map fun c => (c.toNat : Int)).map (Value.int .u8)) ∧ wr.grownBy w' v.ownBlock ∧ (v = .slice none 0 0 → s.size = 0 → v' = .slice none 0 0) := by
  obtain ⟨i0, hi, hz0, hz1, hz2⟩ := info_parts infoU8
  obtain ⟨v', w', h1, h2, h3, h4⟩ := Lib.run_append_own_string (P := Try.prog) wr base 112 9 112 5 i0 Try.underlying112 Try.underlying9 hi hz0 hz1 hz2 v n _ hown s (by unfold maxLen; omega) (by omega) hbase
  exact ⟨v', w', h1, by rw [List.map_append, ← strCells_nums]; exact h2, h3, fun a b => h4.2 ⟨a, b⟩⟩
set_option maxRecDepth 100000 in
theorem bd_writeY (b base : Nat) (xs : List Int) (s : ByteArray) (w : World) (h : BdY w b base xs) (hn : xs.length + s.size < 140737488355329) (hbase : base ≤ w.heap.size) :
    Calls Try.prog 97 #[.pointer (some ⟨b, 0, none⟩), .string s] w fun e w' => e = .returned (.tuple #[.int .i64 s.size, .nilIface]) ∧ BdY w' b base (xs ++ nums s) ∧ Below b w w' ∧ base ≤ w'.heap.size := by
  obtain ⟨v, h, hz⟩ := h
  obtain ⟨p, hp, hb⟩ := h.blk
  have hlt := h.lt
  go_enter Try.func97, Try.ntmps97
  go_wp2_with fail
  refine (bd_check b p v hp w hb).mono ?_
  rintro e w1 ⟨rfl, hb1, hg1⟩
  have hown := far_own h.own hlt hg1
  have hs1 : base ≤ w1.heap.size := Nat.le_trans hbase hg1.size
  obtain ⟨v', w2, h1, h2, h3, h5⟩ := app_str_y w1 base v xs.length xs hown s hn hs1
  have h4 := ownBelow hown h3 (Nat.le_refl _) hs1
  obtain ⟨va, vl, vc, rfl⟩ := own_slice hown
  obtain ⟨va', vl', vc', rfl⟩ := own_slice h2
  have hb2 := (h4.block b hlt).trans hb1
  have hc1 : w1.cell? ⟨b, 1, none⟩ = some (.slice va vl vc) := by rw [cell_of_row w1 b 1 _ _ _ hb1]; rfl
  have hc2 : w2.cell? ⟨b, 1, none⟩ = some (.slice va vl vc) := by rw [cell_of_row w2 b 1 _ _ _ hb2]; rfl
  have hf2 : w2.frozen? ⟨b, 1, none⟩ = false := by simp [World.frozen?, hb2]
  have hb3 := heap_setCell_same w2 b 1 _ _ (.slice va' vl' vc') hb2
  have hgr : w2.grownBy (w2.setCell ⟨b, 1, none⟩ (.slice va' vl' vc')) (some b) := ⟨rfl, rfl, rfl, by simp [World.setCell], fun k _ hne => Below.heap_setCell w2 ⟨b, 1, none⟩ _ k (fun e => hne (by rw [e]))⟩
  have hown3 := far_own h2 hlt hgr
  have HA := Lib.hid h1
  have OUT : BdY (w2.setCell ⟨b, 1, none⟩ (.slice va' vl' vc')) b base (xs ++ nums s) ∧ Below b w (w2.setCell ⟨b, 1, none⟩ (.slice va' vl' vc')) ∧ base ≤ (w2.setCell ⟨b, 1, none⟩ (.slice va' vl' vc')).heap.size := by
    refine ⟨⟨_, ⟨⟨_, .inr rfl, hb3⟩, ?_, hlt⟩, fun e => ?_⟩, ?_, Nat.le_trans (Nat.le_trans hs1 h4.size) hgr.size⟩
    · rw [List.length_append, nums_length]
      exact hown3
    · rw [List.append_eq_nil_iff] at e
      exact h5 (hz e.1) (by rw [← nums_length, e.2]; rfl)
    · have hbA : Below b w w1 := ⟨hg1.os, hg1.tape, hg1.output, hg1.size, fun k hk => by
        rcases Nat.lt_or_ge k w.heap.size with h5 | h5
        · exact hg1.block k h5 (fun e => by injection e with e; omega)
        · omega⟩
      exact (hbA.trans (h4.mono (Nat.le_of_lt hlt))).setCell (p := ⟨b, 1, none⟩) (Nat.le_refl _) _
  have HO := Lib.hid OUT
  clear h1 h2 h3 h4 h5 hz hown hown3 hgr OUT h hb hb1 hb2 hb3
  go_wp2_with (at_builtin; refine wpList_append_run rfl _ _ _ _ rfl _ _ rfl rfl _ _ HA.out ?_)
  go_ret2
  exact ⟨rfl, HO.out⟩
theorem bd_stringY (b base : Nat) (xs : List Int) (w : World) (h : BdY w b base xs) (hbs : isBs xs) :
    Calls Try.prog 98 #[.pointer (some ⟨b, 0, none⟩)] w fun e w' => e = .returned (.string (strOfNums xs)) ∧ Below b w w' := by
  obtain ⟨v, h, hz⟩ := h
  cases xs with
  | nil =>
    obtain rfl := hz rfl
    refine (bd_string_nil b base w h).mono ?_
    rintro e w' ⟨rfl, h1, -⟩
    exact ⟨rfl, h1⟩
  | cons x r =>
    refine (bd_string b base v (x :: r) w h hbs (by simp)).mono ?_
    rintro e w' ⟨rfl, h1, -⟩
    exact ⟨rfl, h1⟩
/-- the texts of events, one behind the other. -/
def txsL (es : List Evt) : List Int := es.flatMap fun e => nums e.tx
theorem txsL_isBs (es : List Evt) : isBs (txsL es) := by
  intro x hx
  obtain ⟨e, -, he⟩ := List.mem_flatMap.1 hx
  exact nums_isBs e.tx x he
theorem txsL_snoc (es : List Evt) (k : Nat) (e : Evt) (h : es[k]? = some e) : txsL (es.take (k + 1)) = txsL (es.take k) ++ nums e.tx := by
  unfold txsL
  rw [List.take_add_one, List.flatMap_append, h]
  simp
theorem txsL_le (es : List Evt) (k : Nat) : (txsL (es.take k)).length ≤ (txsL es).length := by
  unfold txsL
  conv => rhs; rw [← List.take_append_drop k es, List.flatMap_append, List.length_append]
  omega
set_option maxRecDepth 100000 in
set_option maxHeartbeats 2000000 in
theorem events_texts (B : Nat) (es : List Evt) (v : Value) (w : World) (hr : EvsR B w v es) (hB : B ≤ w.heap.size) (hn : es.length ≤ 1000000) (hz : (txsL es).length < 140737488355329) :
    Calls Try.prog 65 #[v] w fun r w' => r = .returned (.string (strOfNums (txsL es))) ∧ Below w.heap.size w w' := by
  have hr0 := hr
  obtain ⟨avs, ⟨a, cap, rfl, -⟩, -⟩ := hr0
  obtain ⟨n, hnn⟩ : ∃ n, es.length = n := ⟨_, rfl⟩
  have HN := Lib.hid hnn
  rw [hnn] at hn hr ⊢
  have q0 := BdY.new w
  have hb0 := (Below.refl w.heap.size w).alloc (Nat.le_refl _) (.cells #[.pointer none, .slice none 0 0] 114)
  have hs0 : w.heap.size + 1 ≤ (w.alloc (.cells #[.pointer none, .slice none 0 0] 114)).heap.size := by simp
  obtain ⟨b, hb⟩ : ∃ b, w.heap.size = b := ⟨_, rfl⟩
  rw [hb] at q0 hb0 hs0 hB ⊢
  have HBB := Lib.hid hb
  go_enter Try.func65, Try.ntmps65
  go_wp2_with fail
  generalize w.alloc (.cells #[.pointer none, .slice none 0 0] 114) = w1 at q0 hb0 hs0 ⊢
  clear hnn hb
  go_loopw [8] (fun i wr => ∃ k : Nat, i = .int .i64 k ∧ k ≤ n ∧ BdY wr b (b + 1) (txsL (es.take k)) ∧ Below b w wr ∧ b + 1 ≤ wr.heap.size) (fun i _ => n - (intOf i).toNat)
  case atStart => exact ⟨0, rfl, by omega, q0, hb0, hs0⟩
  case round =>
    obtain ⟨k, rfl, hk, q, hbl, hsz⟩ := hrel
    by_cases hlt : k < n
    · obtain ⟨x, hx⟩ : ∃ x, es[k]? = some x := ⟨_, List.getElem?_eq_getElem (by rw [HN.out]; exact hlt)⟩
      obtain ⟨bb, off, cap', av, hv, hbB, c0, c1, c2, c3, c4, hav⟩ := hr.get hbl hB k x hx
      rw [HN.out] at hv
      cases hv
      have hd := decide_eq_true (show (k : Int) < (n : Int) by omega)
      have hsn := txsL_snoc es k x hx
      have hle := txsL_le es (k + 1)
      rw [hsn, List.length_append, nums_length] at hle
      obtain ⟨ek, nm, ats, tx⟩ := x
      simp only at c0 c1 c2 c3 c4 hav hsn hle
      obtain ⟨aa, ac, rfl, -⟩ := hav
      have hba := (Below.refl wr.heap.size wr).alloc (Nat.le_refl _) (.cells #[.int .i8 ek, .string nm.1, .string nm.2, .slice aa ats.length ac, .string tx] 30)
      have E1 := BlkAt.new wr #[.int .i8 ek, .string nm.1, .string nm.2, .slice aa ats.length ac, .string tx] 30
      have c5 : _ = some (Value.string tx) := E1.cell 4 rfl
      have HW := Lib.hid (bd_writeY b (b + 1) _ tx _ (q.below hba) (by omega) (Nat.le_trans hsz hba.size))
      clear hx q E1
      go_wp2_with fail
      refine (HW.out).mono ?_
      rintro r w2 ⟨rfl, h1, h2, h3⟩
      go_wp2_with fail
      refine ⟨⟨k + 1, rfl, by omega, by rw [hsn]; exact h1, (hbl.trans (hba.mono (by omega))).trans h2, h3⟩, ?_⟩
      simp [intOf]
      omega
    · have hd := decide_eq_false (show ¬ (k : Int) < (n : Int) by omega)
      have hkk : txsL (es.take k) = txsL es := by rw [List.take_of_length_le (by rw [HN.out]; omega)]
      rw [hkk] at q
      have HS := Lib.hid (bd_stringY b (b + 1) _ _ q (txsL_isBs es))
      clear q hkk
      go_wp2_with fail
      refine (HS.out).mono ?_
      rintro r w2 ⟨rfl, h1⟩
      go_wp2_with fail
      go_ret
      exact ⟨rfl, hbl.trans h1⟩
end Go.Proofs.Yteefopeclfojiaa
/- 
  Layer 16: where an element's end lies (plain); the walk of events.Text.
 -/
namespace Go.Proofs.Yteefopeclfojiaa
open Go.RowKit
/-- what is open, and what has ended, ahead of i. -/
def GInv (es : List Evt) (i : Nat) (g : Gr) : Prop := (∀ t ∈ g.op, ∃ p : Nat, t = (p : Int) ∧ p < i) ∧
  ∀ p : Nat, p < i → (es[p]?).map Evt.k = some 0 → (p : Int) ∈ g.op ∨ ∃ j : Nat, aGet g.ends p = some (.int .i64 j) ∧ p < j ∧ j < i
theorem mem_dropLast {l : List Int} {t p : Int} (hl : l.getLast? = some t) (hp : p ∈ l) : p ∈ l.dropLast ∨ p = t := by
  obtain ⟨q, rfl⟩ := List.getLast?_eq_some_iff.1 hl
  simp at hp ⊢
  exact hp
theorem gstep_inv {es : List Evt} {i : Nat} {x : Evt} {g g' : Gr} (hx : es[i]? = some x) (h : gstep es i x g = some g') (hi : GInv es i g) : GInv es (i + 1) g' := by
  obtain ⟨h1, h2⟩ := hi
  unfold gstep at h
  split at h
  · cases h
  · unfold gbody at h
    split at h
    · cases h
    · split at h
      · rename_i hk
        cases h
        refine ⟨fun t ht => ?_, fun p hp hpk => ?_⟩
        · rcases List.mem_append.1 ht with ht | ht
          · obtain ⟨p, e, hp⟩ := h1 t ht
            exact ⟨p, e, by omega⟩
          · exact ⟨i, by simpa using ht, by omega⟩
        · by_cases e : p = i
          · exact .inl (by subst e; simp)
          · rcases h2 p (by omega) hpk with h3 | ⟨j, h3, h4, h5⟩
            · exact .inl (List.mem_append_left _ h3)
            · exact .inr ⟨j, h3, h4, by omega⟩
      · rename_i hk
        have keep : GInv es (i + 1) g := ⟨fun t ht => by
            obtain ⟨p, e, hp⟩ := h1 t ht
            exact ⟨p, e, by omega⟩, fun p hp hpk => by
            by_cases e : p = i
            · subst e
              rw [hx] at hpk
              exact absurd (by simpa using hpk) hk
            · rcases h2 p (by omega) hpk with h3 | ⟨j, h3, h4, h5⟩
              · exact .inl h3
              · exact .inr ⟨j, h3, h4, by omega⟩⟩
        split at h
        · split at h
          · cases h
          · cases h
            exact keep
        · split at h
          · cases h
          · rename_i t ht
            split at h
            · cases h
              refine ⟨fun u hu => keep.1 u (List.dropLast_subset _ hu), fun p hp hpk => ?_⟩
              have hpi : p ≠ i := fun e => by
                subst e
                rw [hx] at hpk
                exact hk (by simpa using hpk)
              by_cases e : (p : Int) = t
              · refine .inr ⟨i, ?_, by omega, by omega⟩
                show aGet (aPut g.ends t (.int .i64 i)) p = _
                rw [aGet_put, if_pos e]
              · rcases keep.2 p hp hpk with h3 | ⟨j, h3, h4, h5⟩
                · rcases mem_dropLast ht h3 with h6 | h6
                  · exact .inl h6
                  · exact absurd h6 e
                · refine .inr ⟨j, ?_, h4, h5⟩
                  show aGet (aPut g.ends t (.int .i64 i)) p = _
                  rw [aGet_put, if_neg e]
                  exact h3
            · cases h
theorem grun_inv {es : List Evt} : ∀ (l : List Evt) (i : Nat) (g g' : Gr), es.drop i = l → grun es i l g = some g' → GInv es i g → GInv es (i + l.length) g'
  | [], i, g, g', _, h, hi => by cases h; exact hi
  | x :: r, i, g, g', hd, h, hi => by
    rw [grun] at h
    obtain ⟨g1, h1, h2⟩ := Option.bind_eq_some_iff.1 h
    have hx : es[i]? = some x := by
      have := List.getElem?_drop (xs := es) (i := i) (j := 0)
      rw [hd] at this
      simpa using this.symm
    have hd1 : es.drop (i + 1) = r := by rw [← List.drop_drop, hd]; rfl
    have := grun_inv r (i + 1) g1 g' hd1 h2 (gstep_inv hx h1 hi)
    rw [List.length_cons]
    rw [show i + (r.length + 1) = i + 1 + r.length by omega]
    exact this
/-- an element's end lies behind its place. -/
theorem growP_end {es : List Evt} {g : Gr} (h : growP es = some g) (p : Nat) (hp : (es[p]?).map Evt.k = some 0) : ∃ j : Nat, aGet g.ends p = some (.int .i64 j) ∧ p < j ∧ j < es.length := by
  unfold growP at h
  obtain ⟨g1, h1, h2⟩ := Option.bind_eq_some_iff.1 h
  have hi := grun_inv es 0 ⟨[], [], 0⟩ g1 rfl h1 ⟨fun t ht => (by cases ht), fun p hp => by omega⟩
  unfold gfin at h2
  split at h2
  · cases h2
  · rename_i hh
    cases h2
    have hop : g.op = [] := by
      by_cases e : g.op = []
      · exact e
      · exact absurd (.inr e) hh
    have hpl : p < es.length := by
      rcases Nat.lt_or_ge p es.length with h3 | h3
      · exact h3
      · rw [List.getElem?_eq_none h3] at hp
        cases hp
    rcases hi.2 p (by omega) hp with h3 | ⟨j, h3, h4, h5⟩
    · rw [hop] at h3
      cases h3
    · exact ⟨j, h3, h4, by omega⟩
theorem atP_end {es : List Evt} {i : Int} {g : Gr} (h : atP es i = some g) : ∃ p j : Nat, i = (p : Int) ∧ endV g i = .int .i64 j ∧ aGet g.ends p = some (.int .i64 j) ∧ p < j ∧ j < es.length := by
  unfold atP at h
  split at h
  · rename_i hc
    obtain ⟨h0, h1, h2⟩ := hc
    obtain ⟨p, rfl⟩ : ∃ p : Nat, i = (p : Int) := ⟨i.toNat, by omega⟩
    rw [Int.toNat_natCast] at h2
    obtain ⟨j, h3, h4, h5⟩ := growP_end h p h2
    exact ⟨p, j, rfl, by unfold endV; rw [h3]; rfl, h3, h4, h5⟩
  · cases h
theorem AtsR.len {B : Nat} {w : World} : ∀ {es : List Evt} {avs : List Value}, AtsR B w es avs → avs.length = es.length
  | [], [], _ => rfl
  | _ :: es, _ :: as_, h => by simp [AtsR.len h.2]
theorem AtsR.drop {B : Nat} {w : World} : ∀ (p : Nat) {es : List Evt} {avs : List Value}, AtsR B w es avs → AtsR B w (es.drop p) (avs.drop p)
  | 0, _, _, h => h
  | _ + 1, [], [], _ => trivial
  | p + 1, _ :: _, _ :: _, h => AtsR.drop p h.2
theorem AtsR.take {B : Nat} {w : World} : ∀ (p : Nat) {es : List Evt} {avs : List Value}, AtsR B w es avs → AtsR B w (es.take p) (avs.take p)
  | 0, _, _, _ => trivial
  | _ + 1, [], [], _ => trivial
  | p + 1, _ :: _, _ :: _, h => ⟨h.1, AtsR.take p h.2⟩
theorem evsC_drop : ∀ (p : Nat) (es : List Evt) (avs : List Value), avs.length = es.length → evsC (es.drop p) (avs.drop p) = (evsC es avs).drop (p * 5)
  | 0, _, _, _ => by simp
  | p + 1, [], [], _ => by simp [evsC]
  | p + 1, e :: es, a :: as_, h => by
    rw [List.drop_succ_cons, List.drop_succ_cons, evsC_drop p es as_ (by simpa using h), evsC, show (p + 1) * 5 = (evC e a).length + p * 5 by show (p + 1) * 5 = 5 + p * 5; omega, List.drop_append]
    simp
theorem evsC_take : ∀ (p : Nat) (es : List Evt) (avs : List Value) (q : Nat) (u : Value), (evsC (es.take p) (avs.take p))[q]? = some u → (evsC es avs)[q]? = some u
  | 0, _, _, _, _, h => by simp [evsC] at h
  | p + 1, [], _, _, _, h => by simp [evsC] at h
  | p + 1, _ :: _, [], _, _, h => by simp [evsC] at h
  | p + 1, e :: es, a :: as_, q, u, h => by
    rw [List.take_succ_cons, List.take_succ_cons, evsC] at h
    rw [evsC]
    rcases Nat.lt_or_ge q (evC e a).length with hq | hq
    · rw [List.getElem?_append_left hq] at h ⊢
      exact h
    · rw [List.getElem?_append_right hq] at h ⊢
      exact evsC_take p es as_ _ u h
/-- a part of events reads, too. -/
theorem EvsR.sub {B : Nat} {w : World} {b off n cap : Nat} {es : List Evt} (h : EvsR B w (.slice (some ⟨b, off, none⟩) n cap) es) (p m c : Nat) (hm : p + m ≤ es.length) : EvsR B w (.slice (some ⟨b, off + p * 5, none⟩) m c) ((es.drop p).take m) := by
  obtain ⟨avs, ⟨a, cap', hv, hc⟩, ha⟩ := h
  cases hv
  have hl : ((es.drop p).take m).length = m := by rw [List.length_take, List.length_drop]; omega
  refine ⟨(avs.drop p).take m, ⟨_, c, by rw [hl], fun q u hq => ?_⟩, (ha.drop p).take m⟩
  have h1 := evsC_take m _ _ q u hq
  rw [evsC_drop p es avs ha.len, List.getElem?_drop] at h1
  obtain ⟨b', off', hbb, hb', h2⟩ := hc _ u h1
  cases hbb
  exact ⟨b, off + p * 5, rfl, hb', by rw [Nat.add_assoc]; exact h2⟩
end Go.Proofs.Yteefopeclfojiaa
/- 
  Layer 16: the walk of events.Text.
 -/
namespace Go.Proofs.Yteefopeclfojiaa
open Go.RowKit
/-- the number behind an element's last event. -/
def endN (g : Gr) (i : Int) : Nat := match aGet g.ends i with
  | some (.int _ j) => j.toNat
  | _ => 0
/-- an element's text. -/
def textP (es : List Evt) (i : Int) : List Int := match atP es i with
  | none => []
  | some g => txsL ((es.drop i.toNat).take (endN g i - i.toNat))
set_option maxRecDepth 100000 in
set_option maxHeartbeats 2000000 in
theorem events_Text (B : Nat) (es : List Evt) (v : Value) (i : Int) (w : World) (hr : EvsR B w v es) (hB : B ≤ w.heap.size) (hn : es.length ≤ 1000000) (hz : ∀ e ∈ es, e.at_.length ≤ 140737488351232) (ht : (txsL es).length < 140737488355329) (hcap : ∃ a cap, v = .slice a es.length cap ∧ es.length ≤ cap ∧ cap ≤ maxLen) :
    Calls Try.prog 21 #[v, .int .i64 i] w fun r w' => r = .returned (.string (strOfNums (textP es i))) ∧ Below w.heap.size w w' := by
  have hg := events_at B es v i w hr hB hn hz
  unfold textP
  obtain ⟨R, hR⟩ : ∃ R, atP es i = R := ⟨_, rfl⟩
  rw [hR] at hg ⊢
  have H := Lib.hid hg
  clear hg
  cases R with
  | none =>
    clear hR
    go_enter Try.func21, Try.ntmps21
    go_wp2_with fail
    refine (H.out).mono ?_
    rintro r w1 ⟨rfl, hb⟩
    go_wp2_with fail
    go_ret
    exact ⟨rfl, hb⟩
  | some g =>
    obtain ⟨p, j, rfl, hev, hag, hpj, hjn⟩ := atP_end hR
    have hen : endN g p = j := by unfold endN; rw [hag]; rfl
    simp only [hen, Int.toNat_natCast]
    obtain ⟨x, hx⟩ : ∃ x, es[p]? = some x := ⟨_, List.getElem?_eq_getElem (by omega)⟩
    obtain ⟨b, off, cap, av, hv, hbB, -⟩ := hr.get (Below.refl B w) (Nat.le_refl _) p x hx
    obtain ⟨a', cp, hv', hc1, hc2⟩ := hcap
    subst hv
    injection hv' with e1 e2 e3
    subst e3
    clear e1 e2
    obtain ⟨n, hnn⟩ : ∃ n, es.length = n := ⟨_, rfl⟩
    have hsub := fun c => hr.sub p (j - p) c (by omega)
    have hlen : ((es.drop p).take (j - p)).length ≤ 1000000 := by rw [List.length_take, List.length_drop]; omega
    have hdl : ((es.drop p).take (j - p)).length = j - p := by rw [List.length_take, List.length_drop]; omega
    have htx : (txsL ((es.drop p).take (j - p))).length < 140737488355329 := by
      have h1 := txsL_le (es.drop p) (j - p)
      have h2 : (txsL (es.drop p)).length ≤ (txsL es).length := by
        unfold txsL
        conv => rhs; rw [← List.take_append_drop p es, List.flatMap_append, List.length_append]
        omega
      omega
    rw [hnn] at H hr hjn hc1 hn ⊢
    obtain ⟨part, hpart⟩ : ∃ q, (es.drop p).take (j - p) = q := ⟨_, rfl⟩
    rw [hpart] at hsub hlen hdl htx ⊢
    have hq1 : (p : Int) ≤ (j : Int) := by omega
    have hq2 : (j : Int) ≤ (cap : Int) := by omega
    have hq3 : (0 : Int) ≤ (p : Int) := by omega
    have hq4 : (0 : Int) ≤ (j : Int) := by omega
    have HT := Lib.hid (fun (u : World) (hu : Below w.heap.size w u) => events_texts B part (.slice (some ⟨b, off + p * 5, none⟩) (j - p) (j - p)) u ((hsub (j - p)).below (hu.mono hB) (Nat.le_refl _)) (Nat.le_trans hB hu.size) hlen htx)
    clear hR hx hen hnn hsub hlen hdl htx hr hpart ht hz hn av hag
    go_enter Try.func21, Try.ntmps21
    go_wp2_with fail
    refine (H.out).mono ?_
    rintro r w1 ⟨gp, mb, rfl, hb, htr, hm, -⟩
    clear H
    have hbd : Below w.heap.size w w1.drew := hb.drew
    have hlk := ends_look (W := w1.drew) (g := g) hm p
    rw [hev] at hlk
    have hcm : World.cell? w1.drew ⟨gp, 1, none⟩ = some (Value.map (some mb)) := htr.cell 1 rfl
    clear htr hm hev
    have HH := Lib.hid (And.intro hlk (And.intro hcm hbd))
    clear hlk hcm hbd
    go_wp2_with fail
    obtain ⟨hlk, hcm, hbd⟩ := HH.out
    go_still_tail 15, (by kernel_rfl)
    rw [if_neg (show ¬ j = p by omega)]
    change wpList _ _ _ _ _ w1.drew
    clear hlk hcm HH
    generalize w1.drew = w2 at hbd ⊢
    go_wp2_with fail
    refine (HT.out _ hbd).mono ?_
    rintro r w3 ⟨rfl, hb3⟩
    go_wp2_with fail
    go_ret
    exact ⟨rfl, hbd.trans (hb3.mono hbd.size)⟩
end Go.Proofs.Yteefopeclfojiaa
/- 
  Layer 16 in plain terms: elements lie within one another or apart.
 -/
namespace Go.Proofs.Yteefopeclfojiaa
open Go.RowKit
/-- where the element that begins at a place ends. -/
def endO (g : Gr) (p : Nat) : Option Nat := match aGet g.ends (p : Int) with
  | some (.int _ j) => some j.toNat
  | _ => none
/-- how elements lie. -/
structure Nest (es : List Evt) (E : Nat → Option Nat) : Prop where
  start : ∀ p : Nat, (es[p]?).map Evt.k = some 0 ↔ ∃ j, E p = some j
  lt : ∀ p j : Nat, E p = some j → p < j ∧ j < es.length ∧ ∃ x y, es[p]? = some x ∧ es[j]? = some y ∧ x.k = 0 ∧ y.k = 1 ∧ x.n = y.n
  lam : ∀ p j p' j' : Nat, E p = some j → E p' = some j' → p < p' → j < p' ∨ j' < j
  surj : ∀ (q : Nat) (y : Evt), es[q]? = some y → y.k ≠ 0 → y.k ≠ 2 → ∃ p, E p = some q
/-- .. within a run, at i. -/
structure NestI (es : List Evt) (i : Nat) (g : Gr) (os : List Nat) : Prop where
  op : g.op = os.map fun p : Nat => (p : Int)
  asc : os.Pairwise (· < ·)
  opl : ∀ o ∈ os, o < i ∧ (es[o]?).map Evt.k = some 0
  cell : ∀ (p : Nat) (u : Value), aGet g.ends (p : Int) = some u → ∃ j : Nat, u = .int .i64 j
  start : ∀ p : Nat, p < i → (es[p]?).map Evt.k = some 0 → p ∈ os ∨ ∃ j, endO g p = some j
  lt : ∀ p j : Nat, endO g p = some j → p < j ∧ j < i ∧ p ∉ os ∧ ∃ x y, es[p]? = some x ∧ es[j]? = some y ∧ x.k = 0 ∧ y.k = 1 ∧ x.n = y.n
  lam : ∀ p j p' j' : Nat, endO g p = some j → endO g p' = some j' → p < p' → j < p' ∨ j' < j
  opd : ∀ o ∈ os, ∀ p j : Nat, endO g p = some j → p < o → j < o
  surj : ∀ (q : Nat) (y : Evt), q < i → es[q]? = some y → y.k ≠ 0 → y.k ≠ 2 → ∃ p, endO g p = some q
theorem endO_put (g : Gr) (op : List Int) (t i p : Nat) (d : Nat) : endO ⟨op, aPut g.ends (t : Int) (.int .i64 i), d⟩ p = if p = t then some i else endO g p := by
  unfold endO
  simp only
  rw [aGet_put]
  by_cases h : p = t
  · subst h
    rw [if_pos rfl, if_pos rfl]
    rfl
  · rw [if_neg h, if_neg (by omega)]
theorem endO_same {op : List Int} {ends : List (Int × Value)} {d : Nat} {op' : List Int} {d' : Nat} (p : Nat) : endO ⟨op, ends, d⟩ p = endO ⟨op', ends, d'⟩ p := rfl
theorem fldB_k {x : Evt} (h : fldB x = true) : x.k = 0 ∨ x.k = 1 ∨ x.k = 2 := by
  unfold fldB at h
  split at h
  · exact .inr (.inr ‹_›)
  · split at h
    · exact .inr (.inl ‹_›)
    · split at h
      · exact .inl ‹_›
      · cases h
theorem asc_concat {os : List Nat} {t : Nat} (h : (os ++ [t]).Pairwise (· < ·)) : os.Pairwise (· < ·) ∧ ∀ o ∈ os, o < t := by
  rw [List.pairwise_append] at h
  exact ⟨h.1, fun o ho => h.2.2 o ho t (by simp)⟩
theorem gstep_nest {es : List Evt} {i : Nat} {x : Evt} {g g' : Gr} {os : List Nat} (hx : es[i]? = some x) (h : gstep es i x g = some g') (hi : NestI es i g os) : ∃ os', NestI es (i + 1) g' os' := by
  obtain ⟨op, ends, deep⟩ := g
  unfold gstep at h
  split at h
  · cases h
  · rename_i hf
    have hk3 := fldB_k (show fldB x = true by simpa using hf)
    unfold gbody at h
    simp only at h
    split at h
    · cases h
    · split at h
      · rename_i hk
        cases h
        have hop := hi.op
        simp only at hop
        subst hop
        refine ⟨os ++ [i], by simp, ?_, ?_, hi.cell, ?_, ?_, hi.lam, ?_, ?_⟩
        · rw [List.pairwise_append]
          refine ⟨hi.asc, by simp, fun a ha b hb => ?_⟩
          rw [List.mem_singleton] at hb
          subst hb
          exact (hi.opl a ha).1
        · intro o ho
          rcases List.mem_append.1 ho with ho | ho
          · exact ⟨by have := (hi.opl o ho).1; omega, (hi.opl o ho).2⟩
          · rw [List.mem_singleton] at ho
            subst ho
            exact ⟨by omega, by rw [hx, ← hk]; rfl⟩
        · intro p hp hpk
          by_cases e : p = i
          · exact .inl (by subst e; simp)
          · rcases hi.start p (by omega) hpk with h3 | h3
            · exact .inl (List.mem_append_left _ h3)
            · exact .inr h3
        · intro p j hp
          obtain ⟨h1, h2, h3, h4⟩ := hi.lt p j hp
          refine ⟨h1, by omega, fun hm => ?_, h4⟩
          rcases List.mem_append.1 hm with hm | hm
          · exact h3 hm
          · rw [List.mem_singleton] at hm
            omega
        · intro o ho p j hp hpo
          rcases List.mem_append.1 ho with ho | ho
          · exact hi.opd o ho p j hp hpo
          · rw [List.mem_singleton] at ho
            subst ho
            exact (hi.lt p j hp).2.1
        · intro q y hq hy h1 h2
          by_cases e : q = i
          · subst e
            rw [hx] at hy
            cases hy
            exact absurd hk h1
          · exact hi.surj q y (by omega) hy h1 h2
      · rename_i hk
        have keep : x.k = 2 → NestI es (i + 1) ⟨op, ends, deep⟩ os := fun hk2 => ⟨hi.op, hi.asc, fun o ho => ⟨by have := (hi.opl o ho).1; omega, (hi.opl o ho).2⟩, hi.cell, fun p hp hpk => by
            by_cases e : p = i
            · subst e
              rw [hx] at hpk
              exact absurd (by simpa using hpk) hk
            · exact hi.start p (by omega) hpk, fun p j hp => by
            obtain ⟨h1, h2, h3⟩ := hi.lt p j hp
            exact ⟨h1, by omega, h3⟩, hi.lam, hi.opd, fun q y hq hy h1 h2 => by
            by_cases e : q = i
            · subst e
              rw [hx] at hy
              cases hy
              exact absurd hk2 h2
            · exact hi.surj q y (by omega) hy h1 h2⟩
        split at h
        · rename_i hk2
          split at h
          · cases h
          · cases h
            exact ⟨os, keep hk2⟩
        · rename_i hk2
          split at h
          · cases h
          · rename_i t ht
            split at h
            · rename_i hnm
              cases h
              have hop := hi.op
              simp only at hop
              subst hop
              have hne : os ≠ [] := by
                intro e
                subst e
                simp at ht
              obtain ⟨ini, tn, rfl⟩ : ∃ ini tn, os = ini ++ [tn] := ⟨os.dropLast, os.getLast hne, (List.dropLast_concat_getLast hne).symm⟩
              rw [List.map_append, List.map_cons, List.map_nil, List.getLast?_concat] at ht
              injection ht with ht
              subst ht
              rw [Int.toNat_natCast] at hnm
              obtain ⟨ha1, ha2⟩ := asc_concat hi.asc
              obtain ⟨hti, htk⟩ := hi.opl tn (by simp)
              have hE : ∀ p, endO ⟨((ini ++ [tn]).map fun p : Nat => (p : Int)).dropLast, aPut ends (tn : Int) (.int .i64 i), deep⟩ p = if p = tn then some i else endO ⟨(ini ++ [tn]).map fun p : Nat => (p : Int), ends, deep⟩ p := fun p => endO_put ⟨(ini ++ [tn]).map fun p : Nat => (p : Int), ends, deep⟩ _ tn i p deep
              obtain ⟨z, hz⟩ : ∃ z, es[tn]? = some z := by
                cases hz : es[tn]? with
                | none => rw [hz] at htk; cases htk
                | some z => exact ⟨z, rfl⟩
              have hzk : z.k = 0 := by rw [hz] at htk; simpa using htk
              have hzn : z.n = x.n := by rw [hz] at hnm; simpa using hnm
              have hx1 : x.k = 1 := hk3.elim (fun h => absurd h hk) fun h => h.elim id fun h => absurd h hk2
              refine ⟨ini, by simp, ha1, fun o ho => ⟨by have := (hi.opl o (List.mem_append_left _ ho)).1; omega, (hi.opl o (List.mem_append_left _ ho)).2⟩, ?_, ?_, ?_, ?_, ?_, ?_⟩
              · intro p u hu
                simp only at hu
                rw [aGet_put] at hu
                split at hu
                · injection hu with hu
                  exact ⟨i, hu.symm⟩
                · exact hi.cell p u hu
              · intro p hp hpk
                rw [hE]
                by_cases e : p = tn
                · exact .inr ⟨i, by rw [if_pos e]⟩
                · rw [if_neg e]
                  have hpi : p ≠ i := fun e => by
                    subst e
                    rw [hx] at hpk
                    exact hk (by simpa using hpk)
                  rcases hi.start p (by omega) hpk with h3 | h3
                  · rcases List.mem_append.1 h3 with h3 | h3
                    · exact .inl h3
                    · exact absurd (List.mem_singleton.1 h3) e
                  · exact .inr h3
              · intro p j hp
                rw [hE] at hp
                split at hp
                · rename_i e
                  subst e
                  injection hp with hp
                  subst hp
                  exact ⟨hti, by omega, fun hm => by have := ha2 p hm; omega, z, x, hz, hx, hzk, hx1, hzn⟩
                · obtain ⟨h1, h2, h3, h4⟩ := hi.lt p j hp
                  exact ⟨h1, by omega, fun hm => h3 (List.mem_append_left _ hm), h4⟩
              · intro p j p' j' hp hp' hpp
                rw [hE] at hp hp'
                split at hp
                · rename_i e
                  subst e
                  injection hp with hp
                  subst hp
                  rw [if_neg (by omega)] at hp'
                  exact .inr (hi.lt p' j' hp').2.1
                · split at hp'
                  · rename_i e
                    subst e
                    exact .inl (hi.opd p' (by simp) p j hp hpp)
                  · exact hi.lam p j p' j' hp hp' hpp
              · intro o ho p j hp hpo
                rw [hE] at hp
                split at hp
                · rename_i e
                  have := ha2 o ho
                  omega
                · exact hi.opd o (List.mem_append_left _ ho) p j hp hpo
              · intro q y hq hy h1 h2
                by_cases e : q = i
                · subst e
                  exact ⟨tn, by rw [hE, if_pos rfl]⟩
                · obtain ⟨p, hp⟩ := hi.surj q y (by omega) hy h1 h2
                  refine ⟨p, ?_⟩
                  rw [hE, if_neg]
                  · exact hp
                  · intro e
                    subst e
                    exact (hi.lt p q hp).2.2.1 (by simp)
            · cases h
theorem drop_head {es r : List Evt} {x : Evt} {i : Nat} (hd : es.drop i = x :: r) : es[i]? = some x ∧ es.drop (i + 1) = r := by
  constructor
  · have := List.getElem?_drop (xs := es) (i := i) (j := 0)
    rw [hd] at this
    simpa using this.symm
  · rw [← List.drop_drop, hd]; rfl
theorem grun_nest {es : List Evt} : ∀ (l : List Evt) (i : Nat) (g g' : Gr) (os : List Nat), es.drop i = l → grun es i l g = some g' → NestI es i g os → ∃ os', NestI es (i + l.length) g' os'
  | [], i, g, g', os, _, h, hi => by cases h; exact ⟨os, hi⟩
  | x :: r, i, g, g', os, hd, h, hi => by
    rw [grun] at h
    obtain ⟨g1, h1, h2⟩ := Option.bind_eq_some_iff.1 h
    obtain ⟨hx, hd1⟩ := drop_head hd
    obtain ⟨os1, hi1⟩ := gstep_nest hx h1 hi
    rw [List.length_cons, show i + (r.length + 1) = i + 1 + r.length by omega]
    exact grun_nest r (i + 1) g1 g' os1 hd1 h2 hi1
theorem nest0 (es : List Evt) : NestI es 0 ⟨[], [], 0⟩ [] :=
  ⟨rfl, List.Pairwise.nil, fun o h => (by cases h), fun p u h => (by cases h), fun p hp => by omega, fun p j h => (by cases h), fun p j p' j' h => (by cases h), fun o h => (by cases h), fun q y hq => by omega⟩
/-- elements of events that are whole. -/
theorem growP_nest {es : List Evt} {g : Gr} (h : growP es = some g) : Nest es (endO g) ∧ ∀ (p : Nat) (u : Value), aGet g.ends (p : Int) = some u → ∃ j : Nat, u = .int .i64 j := by
  unfold growP at h
  obtain ⟨g1, h1, h2⟩ := Option.bind_eq_some_iff.1 h
  obtain ⟨os, hi⟩ := grun_nest es 0 ⟨[], [], 0⟩ g1 [] rfl h1 (nest0 es)
  unfold gfin at h2
  split at h2
  · cases h2
  · rename_i hh
    cases h2
    have hop : g.op = [] := by
      by_cases e : g.op = []
      · exact e
      · exact absurd (.inr e) hh
    have hos : os = [] := by
      have := hi.op
      rw [hop] at this
      simpa using this.symm
    subst hos
    rw [Nat.zero_add] at hi
    refine ⟨⟨fun p => ⟨fun hp => ?_, fun ⟨j, hj⟩ => ?_⟩, fun p j hp => ?_, hi.lam, fun q y hy => hi.surj q y (List.getElem?_eq_some_iff.1 hy).1 hy⟩, hi.cell⟩
    · have hpl : p < es.length := by
        rcases Nat.lt_or_ge p es.length with h3 | h3
        · exact h3
        · rw [List.getElem?_eq_none h3] at hp
          cases hp
      rcases hi.start p hpl hp with h3 | h3
      · cases h3
      · exact h3
    · obtain ⟨-, -, -, x, y, hx, -, hk, -⟩ := hi.lt p j hj
      rw [hx, ← hk]; rfl
    · obtain ⟨h3, h4, -, h5⟩ := hi.lt p j hp
      exact ⟨h3, h4, h5⟩
end Go.Proofs.Yteefopeclfojiaa
/- 
  Layer 16 in plain terms: a run of events within another run; an element's part is whole; whole events within an element more.
 -/
namespace Go.Proofs.Yteefopeclfojiaa
open Go.RowKit
/-- one step, case by case. -/
def StepC (es : List Evt) (i : Nat) (x : Evt) (op : List Int) (ends : List (Int × Value)) (deep : Nat) (g2 : Gr) : Prop :=
  fldB x = true ∧ ¬ (op = [] ∧ (0 < i ∨ x.k ≠ 0)) ∧
    ((x.k = 0 ∧ g2 = ⟨op ++ [(i : Int)], ends, max deep (op.length + 1)⟩) ∨ (x.k = 2 ∧ ¬ (es[i - 1]?).map Evt.k = some 2 ∧ g2 = ⟨op, ends, deep⟩) ∨
      (x.k = 1 ∧ ∃ t, op.getLast? = some t ∧ (es[t.toNat]?).map Evt.n = some x.n ∧ g2 = ⟨op.dropLast, aPut ends t (.int .i64 i), deep⟩))
theorem gstep_iff {es : List Evt} {i : Nat} {x : Evt} {op : List Int} {ends : List (Int × Value)} {deep : Nat} {g2 : Gr} : gstep es i x ⟨op, ends, deep⟩ = some g2 ↔ StepC es i x op ends deep g2 := by
  unfold StepC
  constructor
  · intro h
    unfold gstep at h
    split at h
    · cases h
    · rename_i hf
      have hk3 := fldB_k (show fldB x = true by simpa using hf)
      unfold gbody at h
      simp only at h
      split at h
      · cases h
      · rename_i ho
        refine ⟨by simpa using hf, ho, ?_⟩
        split at h
        · rename_i hk
          cases h
          exact .inl ⟨hk, rfl⟩
        · rename_i hk
          split at h
          · rename_i hk2
            split at h
            · cases h
            · rename_i ht
              cases h
              exact .inr (.inl ⟨hk2, ht, rfl⟩)
          · rename_i hk2
            split at h
            · cases h
            · rename_i t ht
              split at h
              · rename_i hn
                cases h
                exact .inr (.inr ⟨hk3.elim (fun h => absurd h hk) fun h => h.elim id fun h => absurd h hk2, t, ht, hn, rfl⟩)
              · cases h
  · rintro ⟨hf, ho, h⟩
    unfold gstep
    rw [if_neg (by rw [hf]; decide)]
    unfold gbody
    simp only
    rw [if_neg ho]
    rcases h with ⟨hk, rfl⟩ | ⟨hk, ht, rfl⟩ | ⟨hk, t, ht, hn, rfl⟩
    · rw [if_pos hk]
    · rw [if_neg (by omega), if_pos hk, if_neg ht]
    · rw [if_neg (by omega), if_neg (by omega), ht]
      simp only
      rw [if_pos hn]
def cI (os : List Nat) : List Int := os.map fun p : Nat => (p : Int)
theorem cI_inj {a b : List Nat} (h : cI a = cI b) : a = b := (List.map_inj_right (by intro x y h; omega)).1 h
theorem cI_append (a b : List Nat) : cI (a ++ b) = cI a ++ cI b := by unfold cI; rw [List.map_append]
theorem cI_nil_iff {a : List Nat} : cI a = [] ↔ a = [] := by unfold cI; exact List.map_eq_nil_iff
theorem cI_len (a : List Nat) : (cI a).length = a.length := by unfold cI; rw [List.length_map]
/-- a run over es at i, as it stands s places further on within a run over es', with bs open around it. -/
structure Sim (F : Prop) (s : Nat) (bs : List Nat) (i : Nat) (g g' : Gr) (os : List Nat) : Prop where
  op : g.op = cI os
  op' : g'.op = cI (bs ++ os.map (· + s))
  ends : ∀ q : Nat, q < i → endO g' (q + s) = (endO g q).map (· + s)
  deep : F → g'.deep = g.deep + bs.length
  lt : ∀ o ∈ os, o < i
theorem last_cI {os : List Nat} {t : Int} (h : (cI os).getLast? = some t) : ∃ (ini : List Nat) (u : Nat), os = ini ++ [u] ∧ t = (u : Int) := by
  cases hos : os.getLast? with
  | none =>
    rw [List.getLast?_eq_none_iff] at hos
    subst hos
    cases h
  | some u =>
    obtain ⟨ini, rfl⟩ := List.getLast?_eq_some_iff.1 hos
    rw [cI_append] at h
    exact ⟨ini, u, rfl, by simpa [cI] using h.symm⟩
theorem endO_other {op op' : List Int} {ends : List (Int × Value)} {d d' : Nat} {t i q : Nat} (h : q ≠ t) : endO ⟨op', aPut ends (t : Int) (.int .i64 i), d'⟩ q = endO ⟨op, ends, d⟩ q := by
  rw [endO_put ⟨op, ends, d⟩ op' t i q d', if_neg h]
theorem endO_this {op' : List Int} {ends : List (Int × Value)} {d' : Nat} {t i : Nat} : endO ⟨op', aPut ends (t : Int) (.int .i64 i), d'⟩ t = some i := by
  rw [endO_put ⟨op', ends, d'⟩ op' t i t d', if_pos rfl]
/-- what a step makes of both, whichever way it is known. -/
theorem sim_start {F : Prop} {s : Nat} {bs : List Nat} {i : Nat} {g g' : Gr} {os : List Nat} (h : Sim F s bs i g g' os) (hn : endO g i = none) (hn' : endO g' (i + s) = none) :
    Sim F s bs (i + 1) ⟨g.op ++ [(i : Int)], g.ends, max g.deep (g.op.length + 1)⟩ ⟨g'.op ++ [((i + s : Nat) : Int)], g'.ends, max g'.deep (g'.op.length + 1)⟩ (os ++ [i]) := by
  refine ⟨?_, ?_, fun q hq => ?_, fun hF => ?_, fun o ho => ?_⟩
  · rw [cI_append, ← h.op]; rfl
  · show g'.op ++ [((i + s : Nat) : Int)] = _
    rw [List.map_append, ← List.append_assoc, cI_append, ← h.op']
    rfl
  · by_cases e : q = i
    · subst e
      show endO g' (q + s) = (endO g q).map _
      rw [hn, hn']
      rfl
    · exact h.ends q (by omega)
  · have := h.deep hF
    show max g'.deep (g'.op.length + 1) = max g.deep (g.op.length + 1) + bs.length
    rw [h.op', h.op, cI_len, cI_len, List.length_append, List.length_map]
    omega
  · rcases List.mem_append.1 ho with ho | ho
    · have := h.lt o ho; omega
    · rw [List.mem_singleton] at ho; omega
theorem sim_text {F : Prop} {s : Nat} {bs : List Nat} {i : Nat} {g g' : Gr} {os : List Nat} (h : Sim F s bs i g g' os) (hn : endO g i = none) (hn' : endO g' (i + s) = none) : Sim F s bs (i + 1) g g' os :=
  ⟨h.op, h.op', fun q hq => by
    by_cases e : q = i
    · subst e; rw [hn, hn']; rfl
    · exact h.ends q (by omega), h.deep, fun o ho => by have := h.lt o ho; omega⟩
theorem sim_end {F : Prop} {s : Nat} {bs : List Nat} {i : Nat} {g g' : Gr} {ini : List Nat} {u : Nat} (h : Sim F s bs i g g' (ini ++ [u])) (hn : endO g i = none) (hn' : endO g' (i + s) = none) :
    Sim F s bs (i + 1) ⟨g.op.dropLast, aPut g.ends (u : Int) (.int .i64 i), g.deep⟩ ⟨g'.op.dropLast, aPut g'.ends ((u + s : Nat) : Int) (.int .i64 (i + s : Nat)), g'.deep⟩ ini := by
  have hu := h.lt u (by simp)
  refine ⟨?_, ?_, fun q hq => ?_, h.deep, fun o ho => ?_⟩
  · rw [h.op, cI_append]; simp [cI]
  · rw [h.op', List.map_append, ← List.append_assoc, cI_append]
    simp [cI]
  · by_cases e : q = u
    · subst e
      rw [endO_this, endO_this]
      rfl
    · rw [endO_other (op := g.op) (d := g.deep) e, endO_other (op := g'.op) (d := g'.deep) (by omega : q + s ≠ u + s)]
      by_cases e2 : q = i
      · subst e2; exact hn'.trans (by rw [show endO ⟨g.op, g.ends, g.deep⟩ q = none from hn]; rfl)
      · exact h.ends q (by omega)
  · have := h.lt o (List.mem_append_left _ ho); omega
theorem nestI_none {es : List Evt} {i : Nat} {g : Gr} {os : List Nat} (h : NestI es i g os) (q : Nat) (hq : i ≤ q) : endO g q = none := by
  cases he : endO g q with
  | none => rfl
  | some j =>
    obtain ⟨h1, h2, -⟩ := h.lt q j he
    omega
/-- from the small run to the great one. -/
theorem sim_fwd {F : Prop} {s : Nat} {bs : List Nat} {es es' : List Evt} {i n : Nat} {x : Evt} {g g' g2 : Gr} {os os' : List Nat} (hag : ∀ q, q < n → es'[q + s]? = es[q]?) (hi : i < n) (hbs : bs ≠ [] ∨ (s = 0 ∧ bs = [])) (h : gstep es i x g = some g2) (hs : Sim F s bs i g g' os)
    (hn : NestI es i g os) (hn' : NestI es' (i + s) g' os') : ∃ g2' os2, gstep es' (i + s) x g' = some g2' ∧ Sim F s bs (i + 1) g2 g2' os2 := by
  obtain ⟨op, ends, deep⟩ := g
  obtain ⟨op', ends', deep'⟩ := g'
  obtain ⟨hf, ho, hc⟩ := gstep_iff.1 h
  have e1 := nestI_none hn i (Nat.le_refl _)
  have e2 := nestI_none hn' (i + s) (Nat.le_refl _)
  have ho' : ¬ (op' = [] ∧ (0 < i + s ∨ x.k ≠ 0)) := fun hh => by
    have h1 := hs.op'
    simp only at h1
    rw [hh.1] at h1
    have h2 := cI_nil_iff.1 h1.symm
    simp at h2
    rcases hbs with h3 | ⟨h3, h4⟩
    · exact h3 h2.1
    · refine ho ⟨?_, ?_⟩
      · have h5 := hs.op
        simp only at h5
        rw [h5, h2.2]
        rfl
      · rcases hh.2 with h6 | h6
        · exact .inl (by omega)
        · exact .inr h6
  rcases hc with ⟨hk, rfl⟩ | ⟨hk, ht, rfl⟩ | ⟨hk, t, ht, hnm, rfl⟩
  · exact ⟨_, _, gstep_iff.2 ⟨hf, ho', .inl ⟨hk, rfl⟩⟩, sim_start hs e1 e2⟩
  · refine ⟨_, _, gstep_iff.2 ⟨hf, ho', .inr (.inl ⟨hk, ?_, rfl⟩)⟩, sim_text hs e1 e2⟩
    rcases Nat.eq_zero_or_pos i with h0 | h0
    · exact absurd ⟨(by have := hs.op; simp only at this; rw [this]; exact cI_nil_iff.2 (by cases os with | nil => rfl | cons a r => exact absurd (hs.lt a (by simp)) (by omega))), .inr (by omega)⟩ ho
    · rw [show i + s - 1 = (i - 1) + s by omega, hag (i - 1) (by omega)]
      exact ht
  · have h1 := hs.op
    simp only at h1
    subst h1
    obtain ⟨ini, u, rfl, rfl⟩ := last_cI ht
    have hu := hs.lt u (by simp)
    refine ⟨_, _, gstep_iff.2 ⟨hf, ho', .inr (.inr ⟨hk, ((u + s : Nat) : Int), ?_, ?_, rfl⟩)⟩, sim_end hs e1 e2⟩
    · have h2 := hs.op'
      simp only at h2
      rw [h2, List.map_append, ← List.append_assoc, cI_append]
      simp [cI]
    · rw [Int.toNat_natCast, hag u (by omega)]
      rw [Int.toNat_natCast] at hnm
      exact hnm
/-- from the great run to the small one. -/
theorem sim_bwd {F : Prop} {s : Nat} {bs : List Nat} {es es' : List Evt} {i n : Nat} {x : Evt} {g g' g2' : Gr} {os os' : List Nat} (hag : ∀ q, q < n → es'[q + s]? = es[q]?) (hi : i < n) (hos : os ≠ [] ∨ (i = 0 ∧ x.k = 0)) (h : gstep es' (i + s) x g' = some g2') (hs : Sim F s bs i g g' os)
    (hn : NestI es i g os) (hn' : NestI es' (i + s) g' os') : ∃ g2 os2, gstep es i x g = some g2 ∧ Sim F s bs (i + 1) g2 g2' os2 := by
  obtain ⟨op, ends, deep⟩ := g
  obtain ⟨op', ends', deep'⟩ := g'
  obtain ⟨hf, ho, hc⟩ := gstep_iff.1 h
  have e1 := nestI_none hn i (Nat.le_refl _)
  have e2 := nestI_none hn' (i + s) (Nat.le_refl _)
  have hop := hs.op
  simp only at hop
  have ho' : ¬ (op = [] ∧ (0 < i ∨ x.k ≠ 0)) := fun hh => by
    rcases hos with h0 | h0
    · rw [hh.1] at hop
      exact h0 (cI_nil_iff.1 hop.symm)
    · obtain ⟨-, h1 | h1⟩ := hh <;> omega
  rcases hc with ⟨hk, rfl⟩ | ⟨hk, ht, rfl⟩ | ⟨hk, t, ht, hnm, rfl⟩
  · exact ⟨_, _, gstep_iff.2 ⟨hf, ho', .inl ⟨hk, rfl⟩⟩, sim_start hs e1 e2⟩
  · refine ⟨_, _, gstep_iff.2 ⟨hf, ho', .inr (.inl ⟨hk, ?_, rfl⟩)⟩, sim_text hs e1 e2⟩
    rcases Nat.eq_zero_or_pos i with h0 | h0
    · rcases hos with h1 | h1
      · exfalso
        cases os with
        | nil => exact h1 rfl
        | cons a r => exact absurd (hs.lt a (by simp)) (by omega)
      · omega
    · rw [show i + s - 1 = (i - 1) + s by omega, hag (i - 1) (by omega)] at ht
      exact ht
  · have hne : os ≠ [] := by
      rcases hos with h1 | h1
      · exact h1
      · omega
    subst hop
    have h2 := hs.op'
    simp only at h2
    subst h2
    obtain ⟨ini, u, rfl⟩ : ∃ ini u, os = ini ++ [u] := ⟨os.dropLast, os.getLast hne, (List.dropLast_concat_getLast hne).symm⟩
    have hu := hs.lt u (by simp)
    have htu : t = ((u + s : Nat) : Int) := by
      rw [List.map_append, ← List.append_assoc, cI_append] at ht
      simpa [cI] using ht.symm
    subst htu
    refine ⟨_, _, gstep_iff.2 ⟨hf, ho', .inr (.inr ⟨hk, (u : Int), ?_, ?_, rfl⟩)⟩, sim_end hs e1 e2⟩
    · rw [cI_append]; simp [cI]
    · rw [Int.toNat_natCast, hag u (by omega)] at hnm
      rw [Int.toNat_natCast]
      exact hnm
theorem cI_step {es : List Evt} {i : Nat} {g g2 : Gr} {os os2 : List Nat} {x : Evt} (hx : es[i]? = some x) (h : gstep es i x g = some g2) (hn : NestI es i g os) (ho : g2.op = cI os2) : NestI es (i + 1) g2 os2 := by
  obtain ⟨os', h'⟩ := gstep_nest hx h hn
  have : os' = os2 := cI_inj (h'.op.symm.trans ho)
  subst this
  exact h'
/-- the root lies at the bottom until it ends. -/
def Root (i : Nat) (g : Gr) (os : List Nat) : Prop := (i = 0 ∧ os = []) ∨ (∃ r, os = 0 :: r) ∨ (os = [] ∧ 0 < i ∧ endO g 0 = some (i - 1))
theorem root_step {es : List Evt} {i : Nat} {g g2 : Gr} {os os2 : List Nat} {x : Evt} (h : gstep es i x g = some g2) (hn : NestI es i g os) (ho : g2.op = cI os2) (hr : Root i g os) : Root (i + 1) g2 os2 := by
  obtain ⟨op, ends, deep⟩ := g
  obtain ⟨hf, hq, hc⟩ := gstep_iff.1 h
  have hop := hn.op
  simp only at hop
  change op = cI os at hop
  subst hop
  rcases hr with ⟨h0, h1⟩ | ⟨r, h1⟩ | ⟨h1, h0, -⟩
  · subst h0
    subst h1
    rcases hc with ⟨hk, rfl⟩ | ⟨hk, ht, rfl⟩ | ⟨hk, t, ht, hnm, rfl⟩
    · refine .inr (.inl ⟨[], ?_⟩)
      exact (cI_inj (a := [0]) ho).symm
    · exact absurd ⟨rfl, .inr (by omega)⟩ hq
    · exact absurd ⟨rfl, .inr (by omega)⟩ hq
  · subst h1
    rcases hc with ⟨hk, rfl⟩ | ⟨hk, ht, rfl⟩ | ⟨hk, t, ht, hnm, rfl⟩
    · refine .inr (.inl ⟨r ++ [i], ?_⟩)
      exact (cI_inj (a := 0 :: (r ++ [i])) (by rw [← ho]; simp [cI])).symm
    · exact .inr (.inl ⟨r, (cI_inj ho).symm⟩)
    · obtain ⟨ini, u, hu, rfl⟩ := last_cI ht
      have h2 : os2 = ini := (cI_inj (by rw [← ho]; rw [hu, cI_append]; simp [cI])).symm
      subst h2
      cases os2 with
      | nil =>
        have : u = 0 := by
          injection hu with h3 h4
          exact h3.symm
        subst this
        exact .inr (.inr ⟨rfl, by omega, endO_this⟩)
      | cons a r2 =>
        rw [List.cons_append] at hu
        injection hu with h3 h4
        subst h3
        exact .inr (.inl ⟨r2, rfl⟩)
  · subst h1
    exact absurd ⟨rfl, .inl h0⟩ hq
theorem grun_root {es : List Evt} : ∀ (l : List Evt) (i : Nat) (g gf : Gr) (os : List Nat), es.drop i = l → grun es i l g = some gf → NestI es i g os → Root i g os → ∃ os', NestI es (i + l.length) gf os' ∧ Root (i + l.length) gf os'
  | [], i, g, gf, os, _, h, hn, hr => by cases h; exact ⟨os, hn, hr⟩
  | x :: r, i, g, gf, os, hd, h, hn, hr => by
    rw [grun] at h
    obtain ⟨g1, h1, h2⟩ := Option.bind_eq_some_iff.1 h
    obtain ⟨hx, hd1⟩ := drop_head hd
    obtain ⟨os1, hi1⟩ := gstep_nest hx h1 hn
    rw [List.length_cons, show i + (r.length + 1) = i + 1 + r.length by omega]
    exact grun_root r (i + 1) g1 gf os1 hd1 h2 hi1 (root_step h1 hn hi1.op hr)
theorem growP_run {es : List Evt} {g : Gr} (h : growP es = some g) : grun es 0 es ⟨[], [], 0⟩ = some g ∧ es ≠ [] ∧ g.op = [] := by
  unfold growP at h
  obtain ⟨g1, h1, h2⟩ := Option.bind_eq_some_iff.1 h
  unfold gfin at h2
  split at h2
  · cases h2
  · rename_i hh
    cases h2
    exact ⟨h1, fun e => hh (.inl e), by
      by_cases e : g.op = []
      · exact e
      · exact absurd (.inr e) hh⟩
theorem growP_mk {es : List Evt} {g : Gr} (h : grun es 0 es ⟨[], [], 0⟩ = some g) (he : es ≠ []) (ho : g.op = []) : growP es = some g := by
  unfold growP
  rw [h]
  show gfin es g = _
  unfold gfin
  rw [if_neg (fun hh => hh.elim he fun h2 => h2 ho)]
/-- the root ends last. -/
theorem growP_last {es : List Evt} {g : Gr} (h : growP es = some g) : endO g 0 = some (es.length - 1) ∧ 0 < es.length := by
  obtain ⟨h1, h2, h3⟩ := growP_run h
  obtain ⟨os, hn, hr⟩ := grun_root es 0 _ _ [] rfl h1 (nest0 es) (.inl ⟨rfl, rfl⟩)
  have hos : os = [] := by
    have h4 := hn.op
    rw [h3] at h4
    exact List.map_eq_nil_iff.1 h4.symm
  have hlen : 0 < es.length := List.length_pos_iff.2 h2
  subst hos
  rcases hr with ⟨h4, -⟩ | ⟨r, h4⟩ | ⟨-, -, h4⟩
  · omega
  · cases h4
  · rw [Nat.zero_add] at h4
    exact ⟨h4, hlen⟩
theorem growP_fld {es : List Evt} {g : Gr} (h : growP es = some g) : ∀ x ∈ es, fldB x = true := by
  obtain ⟨h1, -, -⟩ := growP_run h
  have main : ∀ (l : List Evt) (i : Nat) (g gf : Gr), grun es i l g = some gf → ∀ x ∈ l, fldB x = true := by
    intro l
    induction l with
    | nil => intro i g gf _ x hx; cases hx
    | cons y r ih =>
      intro i g gf h x hx
      rw [grun] at h
      obtain ⟨g1, h1, h2⟩ := Option.bind_eq_some_iff.1 h
      rcases List.mem_cons.1 hx with rfl | hx
      · obtain ⟨op, ends, deep⟩ := g
        exact (gstep_iff.1 h1).1
      · exact ih _ _ _ h2 x hx
  exact main es 0 _ _ h1
theorem grun_append {es : List Evt} : ∀ (a b : List Evt) (i : Nat) (g : Gr), grun es i (a ++ b) g = (grun es i a g).bind (grun es (i + a.length) b)
  | [], b, i, g => rfl
  | x :: a, b, i, g => by
    rw [List.cons_append, grun, grun, Option.bind_assoc]
    congr 1
    funext g1
    rw [grun_append a b (i + 1) g1, List.length_cons, show i + 1 + a.length = i + (a.length + 1) by omega]
/-- an end that is known stays. -/
theorem gstep_keep {es : List Evt} {i : Nat} {x : Evt} {g g2 : Gr} {os : List Nat} (h : gstep es i x g = some g2) (hn : NestI es i g os) (q : Nat) : (∀ j, endO g q = some j → endO g2 q = some j) ∧ (endO g q = none → endO g2 q = none ∨ endO g2 q = some i) := by
  obtain ⟨op, ends, deep⟩ := g
  obtain ⟨hf, hq, hc⟩ := gstep_iff.1 h
  rcases hc with ⟨hk, rfl⟩ | ⟨hk, ht, rfl⟩ | ⟨hk, t, ht, hnm, rfl⟩
  · exact ⟨fun j h => h, fun h => .inl h⟩
  · exact ⟨fun j h => h, fun h => .inl h⟩
  · have hop := hn.op
    simp only at hop
    change op = cI os at hop
    subst hop
    obtain ⟨ini, u, hu, rfl⟩ := last_cI ht
    by_cases e : q = u
    · subst e
      refine ⟨fun j hj => ?_, fun _ => .inr endO_this⟩
      have := (hn.lt q j hj).2.2.1
      exact absurd (by rw [hu]; simp) this
    · rw [endO_other (op := cI os) (d := deep) e]
      exact ⟨fun j h => h, fun h => .inl h⟩
theorem grun_keep {es : List Evt} : ∀ (l : List Evt) (i : Nat) (g gf : Gr) (os : List Nat), es.drop i = l → grun es i l g = some gf → NestI es i g os → ∀ q, (∀ j, endO g q = some j → endO gf q = some j) ∧ (endO g q = none → ∀ j, endO gf q = some j → i ≤ j)
  | [], i, g, gf, os, _, h, hn, q => by cases h; exact ⟨fun j h => h, fun h j hj => by rw [h] at hj; cases hj⟩
  | x :: r, i, g, gf, os, hd, h, hn, q => by
    rw [grun] at h
    obtain ⟨g1, h1, h2⟩ := Option.bind_eq_some_iff.1 h
    obtain ⟨hx, hd1⟩ := drop_head hd
    obtain ⟨os1, hi1⟩ := gstep_nest hx h1 hn
    obtain ⟨k1, k2⟩ := gstep_keep h1 hn q
    obtain ⟨k3, k4⟩ := grun_keep r (i + 1) g1 gf os1 hd1 h2 hi1 q
    refine ⟨fun j hj => k3 j (k1 j hj), fun hq j hj => ?_⟩
    rcases k2 hq with h3 | h3
    · have := k4 h3 j hj; omega
    · have := k3 i h3
      rw [this] at hj
      injection hj with hj
      omega
theorem fwd_run {F : Prop} {s : Nat} {bs : List Nat} {es es' : List Evt} {n : Nat} (hag : ∀ q, q < n → es'[q + s]? = es[q]?) (hbs : bs ≠ [] ∨ (s = 0 ∧ bs = [])) : ∀ (l : List Evt) (i : Nat) (g g' gf : Gr) (os os' : List Nat), es.drop i = l → i + l.length ≤ n → grun es i l g = some gf → Sim F s bs i g g' os → NestI es i g os → NestI es' (i + s) g' os' →
    ∃ gf' osf os'f, grun es' (i + s) l g' = some gf' ∧ Sim F s bs (i + l.length) gf gf' osf ∧ NestI es' (i + l.length + s) gf' os'f
  | [], i, g, g', gf, os, os', _, _, h, hs, hn, hn' => by cases h; exact ⟨g', os, os', rfl, hs, hn'⟩
  | x :: r, i, g, g', gf, os, os', hd, hl, h, hs, hn, hn' => by
    rw [grun] at h
    obtain ⟨g1, h1, h2⟩ := Option.bind_eq_some_iff.1 h
    obtain ⟨hx, hd1⟩ := drop_head hd
    rw [List.length_cons] at hl
    obtain ⟨g1', os2, h3, hs1⟩ := sim_fwd hag (by omega) hbs h1 hs hn hn'
    have hx' : es'[i + s]? = some x := by rw [hag i (by omega)]; exact hx
    have hn1 := cI_step hx h1 hn hs1.op
    have hn1' := cI_step hx' h3 hn' hs1.op'
    rw [show i + s + 1 = i + 1 + s by omega] at hn1'
    obtain ⟨gf', osf, os'f, k1, k2, k3⟩ := fwd_run hag hbs r (i + 1) g1 g1' gf os2 _ hd1 (by omega) h2 hs1 hn1 hn1'
    refine ⟨gf', osf, os'f, ?_, ?_, ?_⟩
    · rw [grun, h3]
      show grun es' (i + s + 1) r g1' = _
      rw [show i + s + 1 = i + 1 + s by omega]
      exact k1
    · rw [List.length_cons, show i + (r.length + 1) = i + 1 + r.length by omega]; exact k2
    · rw [List.length_cons, show i + (r.length + 1) = i + 1 + r.length by omega]; exact k3
theorem sub_run {s e : Nat} {bs : List Nat} {es es' : List Evt} (hag : ∀ q, q < e + 1 - s → es'[q + s]? = es[q]?) : ∀ (l : List Evt) (i : Nat) (g g' gf : Gr) (os os' r0 : List Nat), es'.drop (i + s) = l → grun es' (i + s) l g' = some gf → Sim False s bs i g g' os → NestI es i g os → NestI es' (i + s) g' os' → Root i g os → os = 0 :: r0 → endO gf s = some e →
    ∃ g2, grun es i (l.take (e + 1 - (i + s))) g = some g2 ∧ g2.op = [] ∧ ∀ q, q < e + 1 - s → endO gf (q + s) = (endO g2 q).map (· + s)
  | [], i, g, g', gf, os, os', r0, _, h, hs, hn, hn', _, ho, he => by
    cases h
    have hm : s ∈ os' := by
      have : os' = bs ++ os.map (· + s) := cI_inj (hn'.op.symm.trans hs.op')
      rw [this, ho]
      simp
    exact absurd hm (hn'.lt s e he).2.2.1
  | x :: r, i, g, g', gf, os, os', r0, hd, h, hs, hn, hn', hr, ho, he => by
    have hs0 : endO g' s = none := by
      have hm : s ∈ os' := by
        have : os' = bs ++ os.map (· + s) := cI_inj (hn'.op.symm.trans hs.op')
        rw [this, ho]
        simp
      cases hh : endO g' s with
      | none => rfl
      | some j => exact absurd hm (hn'.lt s j hh).2.2.1
    have hie : i + s ≤ e := (grun_keep (x :: r) (i + s) g' gf os' hd h hn' s).2 hs0 e he
    rw [grun] at h
    obtain ⟨g1', h1, h2⟩ := Option.bind_eq_some_iff.1 h
    obtain ⟨hx', hd1⟩ := drop_head hd
    have hx : es[i]? = some x := by rw [← hag i (by omega)]; exact hx'
    obtain ⟨g2, os2, h3, hs1⟩ := sim_bwd hag (by omega) (.inl (by rw [ho]; simp)) h1 hs hn hn'
    have hn1 := cI_step hx h3 hn hs1.op
    have hn1' := cI_step hx' h1 hn' hs1.op'
    have hr1 := root_step h3 hn hs1.op hr
    rw [show e + 1 - (i + s) = (e + 1 - (i + 1 + s)) + 1 by omega, List.take_succ_cons, grun, h3]
    rw [show i + s + 1 = i + 1 + s by omega] at hn1' h2 hd1
    rcases hr1 with ⟨h4, -⟩ | ⟨r2, h4⟩ | ⟨h4, -, h5⟩
    · omega
    · exact sub_run hag r (i + 1) g2 g1' gf os2 _ r2 hd1 h2 hs1 hn1 hn1' (.inr (.inl ⟨r2, h4⟩)) h4 he
    · rw [Nat.add_sub_cancel] at h5
      have h6 := hs1.ends 0 (by omega)
      rw [h5, Nat.zero_add] at h6
      have h7 := (grun_keep r (i + 1 + s) g1' gf _ hd1 h2 hn1' s).1 (i + s) h6
      rw [he] at h7
      injection h7 with h7
      subst h7
      rw [show i + s + 1 - (i + 1 + s) = 0 by omega, List.take_zero]
      refine ⟨g2, rfl, by rw [hs1.op, h4]; rfl, fun q hq => ?_⟩
      have h8 := hs1.ends q (by omega)
      cases h9 : endO g2 q with
      | some j =>
        rw [h9] at h8
        exact (grun_keep r (i + 1 + s) g1' gf _ hd1 h2 hn1' (q + s)).1 _ h8
      | none =>
        cases h10 : endO gf (q + s) with
        | none => rfl
        | some j =>
          exfalso
          obtain ⟨osf, hnf⟩ := grun_nest r (i + 1 + s) g1' gf _ hd1 h2 hn1'
          obtain ⟨-, -, -, y, -, hy, -, hyk, -⟩ := hnf.lt (q + s) j h10
          rw [hag q (by omega)] at hy
          rcases hn1.start q (by omega) (by rw [hy, ← hyk]; rfl) with h11 | ⟨j', h11⟩
          · rw [h4] at h11; cases h11
          · rw [h9] at h11; cases h11
/-- an element, from its place to its end, is whole; its ends are those that they are. -/
theorem sub_whole {es' : List Evt} {gf : Gr} {s e : Nat} (h : growP es' = some gf) (he : endO gf s = some e) : ∃ g2, growP ((es'.drop s).take (e + 1 - s)) = some g2 ∧ ∀ q, q < e + 1 - s → endO gf (q + s) = (endO g2 q).map (· + s) := by
  obtain ⟨h1, h2, h3⟩ := growP_run h
  obtain ⟨hse, hel, x, y, hx, hy, hxk, -⟩ := (growP_nest h).1.lt s e he
  have hsp : es' = es'.take s ++ es'.drop s := (List.take_append_drop s es').symm
  have hag : ∀ q, q < e + 1 - s → es'[q + s]? = ((es'.drop s).take (e + 1 - s))[q]? := fun q hq => by
    rw [List.getElem?_take_of_lt hq, List.getElem?_drop, Nat.add_comm]
  rw [show grun es' 0 es' ⟨[], [], 0⟩ = grun es' 0 (es'.take s ++ es'.drop s) ⟨[], [], 0⟩ by rw [← hsp], grun_append] at h1
  obtain ⟨gs, h4, h5⟩ := Option.bind_eq_some_iff.1 h1
  have hlt : (es'.take s).length = s := by rw [List.length_take]; omega
  rw [hlt, Nat.zero_add] at h5
  have hns : ∃ bs, NestI es' s gs bs := by
    have main : ∀ (l : List Evt) (i : Nat) (g gf : Gr) (os : List Nat), l <+: es'.drop i → grun es' i l g = some gf → NestI es' i g os → ∃ os', NestI es' (i + l.length) gf os' := by
      intro l
      induction l with
      | nil => intro i g gf os _ h hn; cases h; exact ⟨os, hn⟩
      | cons x r ih =>
        intro i g gf os hd h hn
        rw [grun] at h
        obtain ⟨g1, h1, h2⟩ := Option.bind_eq_some_iff.1 h
        obtain ⟨t, ht⟩ := hd
        rw [List.cons_append] at ht
        obtain ⟨hx, hd1⟩ := drop_head ht.symm
        obtain ⟨os1, hi1⟩ := gstep_nest hx h1 hn
        rw [List.length_cons, show i + (r.length + 1) = i + 1 + r.length by omega]
        exact ih (i + 1) g1 gf os1 ⟨t, hd1.symm⟩ h2 hi1
    have := main (es'.take s) 0 _ _ [] (by rw [List.drop_zero]; exact List.take_prefix _ _) h4 (nest0 es')
    rwa [hlt, Nat.zero_add] at this
  obtain ⟨bs, hns⟩ := hns
  have hd : es'.drop s = x :: es'.drop (s + 1) := by
    obtain ⟨hx1, hx2⟩ := List.getElem?_eq_some_iff.1 hx
    rw [← hx2, List.drop_eq_getElem_cons hx1]
  have hS0 : Sim False s bs 0 ⟨[], [], 0⟩ gs [] := ⟨rfl, by rw [List.map_nil, List.append_nil]; exact hns.op, fun q hq => by omega, fun f => f.elim, fun o ho => by cases ho⟩
  rw [hd, grun] at h5
  obtain ⟨g1', h6, h7⟩ := Option.bind_eq_some_iff.1 h5
  obtain ⟨g2, os2, h8, hs1⟩ := sim_bwd (n := e + 1 - s) (es := (es'.drop s).take (e + 1 - s)) hag (by omega) (.inr ⟨rfl, hxk⟩) (by rw [Nat.zero_add]; exact h6) hS0 (nest0 _) (by rw [Nat.zero_add]; exact hns)
  have hx0 : ((es'.drop s).take (e + 1 - s))[0]? = some x := by rw [← hag 0 (by omega), Nat.zero_add]; exact hx
  have hn1 := cI_step hx0 h8 (nest0 _) hs1.op
  have hn1' := cI_step hx h6 hns hs1.op'
  have hr1 := root_step h8 (nest0 _) hs1.op (.inl ⟨rfl, rfl⟩)
  have hop2 : os2 = [0] := by
    obtain ⟨-, -, hc⟩ := gstep_iff.1 h8
    have h9 := hs1.op
    rcases hc with ⟨hk, rfl⟩ | ⟨hk, -⟩ | ⟨hk, -⟩
    · exact (cI_inj (a := [0]) h9).symm
    · omega
    · omega
  have hn1'' : NestI es' (1 + s) g1' (bs ++ os2.map (· + s)) := by rw [Nat.add_comm]; exact hn1'
  obtain ⟨gq, k1, k2, k3⟩ := sub_run hag (es'.drop (s + 1)) 1 g2 g1' gf os2 _ [] (by rw [Nat.add_comm]) (by rw [Nat.add_comm]; exact h7) hs1 hn1 hn1'' hr1 hop2 he
  refine ⟨gq, growP_mk ?_ ?_ k2, k3⟩
  · rw [show grun ((es'.drop s).take (e + 1 - s)) 0 ((es'.drop s).take (e + 1 - s)) ⟨[], [], 0⟩ = grun ((es'.drop s).take (e + 1 - s)) 0 (x :: (es'.drop (s + 1)).take (e + 1 - (1 + s))) ⟨[], [], 0⟩ by
      congr 1
      rw [hd, show e + 1 - s = (e + 1 - (1 + s)) + 1 by omega, List.take_succ_cons], grun, h8]
    exact k1
  · intro e0
    rw [e0] at hx0
    cases hx0
/-- whole events within an element more. -/
def wrapL (n : ByteArray × ByteArray) (es : List Evt) : List Evt := ⟨0, n, [], ⟨#[]⟩⟩ :: (es ++ [⟨1, n, [], ⟨#[]⟩⟩])
theorem wrap_whole {es : List Evt} {g : Gr} (n : ByteArray × ByteArray) (hnl : emB n.2 = false) (h : growP es = some g) :
    ∃ g', growP (wrapL n es) = some g' ∧ g'.deep = g.deep + 1 ∧ endO g' 0 = some (es.length + 1) ∧ endO g' 1 = some es.length := by
  obtain ⟨h1, h2, h3⟩ := growP_run h
  have hem : emB ⟨#[]⟩ = true := by unfold emB; rw [ByteArray.toList_eq]; rfl
  have f0 : fldB ⟨0, n, [], ⟨#[]⟩⟩ = true := by unfold fldB; simp [attGo, hnl, hem]
  have f1 : fldB ⟨1, n, [], ⟨#[]⟩⟩ = true := by unfold fldB; simp [hnl, hem]
  have hs0 : gstep (wrapL n es) 0 ⟨0, n, [], ⟨#[]⟩⟩ ⟨[], [], 0⟩ = some ⟨[(0 : Nat)], [], 1⟩ := gstep_iff.2 ⟨f0, by simp, .inl ⟨rfl, rfl⟩⟩
  have hn1 : NestI (wrapL n es) (0 + 1) ⟨[((0 : Nat) : Int)], [], 1⟩ [0] := cI_step rfl hs0 (nest0 _) rfl
  have hag : ∀ q, q < es.length → (wrapL n es)[q + 1]? = es[q]? := fun q hq => by
    unfold wrapL
    rw [List.getElem?_cons_succ, List.getElem?_append_left hq]
  have hS : Sim True 1 [0] 0 ⟨[], [], 0⟩ ⟨[((0 : Nat) : Int)], [], 1⟩ [] := ⟨rfl, rfl, fun q hq => by omega, fun _ => rfl, fun o ho => by cases ho⟩
  obtain ⟨gf', osf, os'f, k1, k2, k3⟩ := fwd_run hag (.inl (by simp)) es 0 _ _ g [] [0] rfl (by omega) h1 hS (nest0 es) hn1
  rw [Nat.zero_add] at k1 k2 k3
  have hosf : osf = [] := cI_nil_iff.1 (by rw [← k2.op, h3])
  subst hosf
  obtain ⟨op', ends', deep'⟩ := gf'
  have ho' := k2.op'
  simp only [List.map_nil, List.append_nil] at ho'
  subst ho'
  have hsE : gstep (wrapL n es) (es.length + 1) ⟨1, n, [], ⟨#[]⟩⟩ ⟨cI [0], ends', deep'⟩ = some ⟨[], aPut ends' ((0 : Nat) : Int) (.int .i64 (es.length + 1 : Nat)), deep'⟩ :=
    gstep_iff.2 ⟨f1, by simp [cI], .inr (.inr ⟨rfl, 0, rfl, rfl, rfl⟩)⟩
  refine ⟨⟨[], aPut ends' ((0 : Nat) : Int) (.int .i64 (es.length + 1 : Nat)), deep'⟩, growP_mk ?_ (by unfold wrapL; simp) rfl, ?_, endO_this, ?_⟩
  · rw [show grun (wrapL n es) 0 (wrapL n es) ⟨[], [], 0⟩ = grun (wrapL n es) 0 (⟨0, n, [], ⟨#[]⟩⟩ :: (es ++ [⟨1, n, [], ⟨#[]⟩⟩])) ⟨[], [], 0⟩ from rfl, grun, hs0]
    show grun (wrapL n es) (0 + 1) (es ++ [⟨1, n, [], ⟨#[]⟩⟩]) ⟨[((0 : Nat) : Int)], [], 1⟩ = _
    rw [grun_append, Nat.zero_add, k1]
    show grun (wrapL n es) (1 + es.length) [⟨1, n, [], ⟨#[]⟩⟩] ⟨cI [0], ends', deep'⟩ = _
    rw [Nat.add_comm, grun, hsE]
    rfl
  · exact k2.deep trivial
  · rw [endO_other (op := cI [0]) (d := deep') (by omega)]
    have h4 := k2.ends 0 (growP_last h).2
    rw [(growP_last h).1] at h4
    have h5 := (growP_last h).2
    rw [show (1 : Nat) = 0 + 1 from rfl, h4]
    show some (es.length - 1 + 1) = _
    congr 1
    omega
/-- behind whole events no end can stand. -/
theorem whole_more {es : List Evt} {g : Gr} (h : growP es = some g) (x : Evt) : growP (es ++ [x]) = none := by
  obtain ⟨h1, h2, h3⟩ := growP_run h
  have hag : ∀ q, q < es.length → (es ++ [x])[q + 0]? = es[q]? := fun q hq => by rw [Nat.add_zero, List.getElem?_append_left hq]
  have hS : Sim False 0 [] 0 ⟨[], [], 0⟩ ⟨[], [], 0⟩ [] := ⟨rfl, rfl, fun q hq => by omega, fun f => f.elim, fun o ho => by cases ho⟩
  obtain ⟨gf', osf, os'f, k1, k2, k3⟩ := fwd_run hag (.inr ⟨rfl, rfl⟩) es 0 _ _ g [] [] rfl (by omega) h1 hS (nest0 es) (nest0 _)
  have hosf : osf = [] := cI_nil_iff.1 (by rw [← k2.op, h3])
  subst hosf
  obtain ⟨op', ends', deep'⟩ := gf'
  have ho' := k2.op'
  simp only [List.map_nil, List.append_nil] at ho'
  subst ho'
  unfold growP
  rw [show grun (es ++ [x]) 0 (es ++ [x]) ⟨[], [], 0⟩ = none by
    rw [grun_append, show (0 : Nat) = 0 + 0 from rfl, k1]
    show grun (es ++ [x]) (0 + 0 + es.length) [x] ⟨cI [], ends', deep'⟩ = none
    rw [grun]
    cases hg : gstep (es ++ [x]) (0 + 0 + es.length) x ⟨cI [], ends', deep'⟩ with
    | none => rfl
    | some g2 => exact absurd ⟨rfl, .inl (by have := (growP_last h).2; omega)⟩ (gstep_iff.1 hg).2.1]
  rfl
end Go.Proofs.Yteefopeclfojiaa
