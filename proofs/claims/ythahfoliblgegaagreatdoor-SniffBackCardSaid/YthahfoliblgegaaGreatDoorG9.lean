/-
  Parts MeJ MeK MeL DeP of this seat's texts, in one file: contracts of functions that the law reaches, and the plain laws behind them. No condition.
-/
import Derived.Test.YthahfoliblgegaaGreatDoorG8
import Derived.Maps.OwnOps
import Derived.Deep.RegionLaw
import Derived.Lib.Strings
import Derived.Deep.RegionHeld3
import Derived.Test.YthahfoliblgegaaGreatDoorG1
/- 
  A map of the call's own with two entries, keyed by strings; the walk of media's Parse.
 -/
namespace Go.Proofs.YthahfoliblgegaaGreatDoor
open Go.RowKit
open Go.ChangeMaps in
theorem smap_push {W : World} {b : Nat} {es : Array MapEntry} {clock : Nat} (hb : W.heap[b]? = some (.map es clock)) {t kt et : TypeId} (ht : Tryz.prog.underlying t = some (.map kt et)) (hk : Tryz.prog.underlying kt = some .string) (k : ByteArray) (v : Value)
    (hf : Instr.findNow .string (.string k) es.toList 0 = some none) :
    (Instr.mapUpdate t (.map (some b)) (.string k) v).run Tryz.prog W = .ok () (setBlock W b (.map (es.push { key := .string k, val := v, born := clock }) (clock + 1))) ∧
    (setBlock W b (.map (es.push { key := .string k, val := v, born := clock }) (clock + 1))).heap[b]? = some (.map (es.push { key := .string k, val := v, born := clock }) (clock + 1)) ∧
    W.grownBy (setBlock W b (.map (es.push { key := .string k, val := v, born := clock }) (clock + 1))) (some b) := by
  have hg := MapKept.run_getObj_map (P := Tryz.prog) hb
  have hck : ∀ em, (Instr.checkKey em 10000 kt (.string k)).run Tryz.prog W = .ok () W := fun em => MapKept.run_checkKey hk (by simp [MapKept.IsKey]) em 9999
  have hf : (Instr.findKey kt (.string k) es.toList).run Tryz.prog W = .ok none W := by simp [Instr.findKey, run_underlying hk, hf]
  refine ⟨?_, heap_setBlock_same hb _, ⟨rfl, rfl, rfl, by simp [setBlock], fun i _ hi => heap_setBlock_other hb _ (fun e => hi (by rw [e]))⟩⟩
  simp [Instr.mapUpdate, run_underlying ht, hg, hck, hf, MapKept.run_setObj_map _ hb, Result.andThen, setBlock]
theorem smap_look {W : World} {b : Nat} {es : Array MapEntry} {clock : Nat} (hb : W.heap[b]? = some (.map es clock)) {t kt et : TypeId} (ht : Tryz.prog.underlying t = some (.map kt et)) (hk : Tryz.prog.underlying kt = some .string) (k : ByteArray) (v : Value) (j : Nat)
    (hf : Instr.findNow .string (.string k) es.toList 0 = some (some (j, v))) :
    (Instr.lookup t (.map (some b)) (.string k) false).run Tryz.prog W = .ok v W := by
  have hg := MapKept.run_getObj_map (P := Tryz.prog) hb
  have hck : ∀ em, (Instr.checkKey em 10000 kt (.string k)).run Tryz.prog W = .ok () W := fun em => MapKept.run_checkKey hk (by simp [MapKept.IsKey]) em 9999
  have hf : (Instr.findKey kt (.string k) es.toList).run Tryz.prog W = .ok (some (j, v)) W := by simp only [Instr.findKey, Sem.run_bind, run_underlying hk, Result.andThen_ok, hf, Sem.run_pure]
  simp [Instr.lookup, run_underlying ht, hg, hck, hf, Result.andThen]
def kTok : ByteArray := ⟨#[116, 111, 107, 101, 110]⟩
def kBl : ByteArray := ⟨#[98, 108, 97, 110, 107, 115]⟩
/-- the world behind the two entries of the map bm. -/
theorem two_entries (W : World) (bm : Nat) (hbm : W.heap.size = bm) (u v : Value) : ∃ w3 w4 w5 : World, (Instr.makeMap 79 none).run Tryz.prog W = .ok (.map (some bm)) w3 ∧
    (Instr.mapUpdate 79 (.map (some bm)) (.string ⟨#[116, 111, 107, 101, 110]⟩) u).run Tryz.prog w3 = .ok () w4 ∧ (Instr.mapUpdate 79 (.map (some bm)) (.string ⟨#[98, 108, 97, 110, 107, 115]⟩) v).run Tryz.prog w4 = .ok () w5 ∧
    (∀ n, (Instr.lookup 79 (.map (some bm)) (.string ⟨#[116, 111, 107, 101, 110]⟩) false).run Tryz.prog (w5.drewN n) = .ok u (w5.drewN n)) ∧
    (∀ n, (Instr.lookup 79 (.map (some bm)) (.string ⟨#[98, 108, 97, 110, 107, 115]⟩) false).run Tryz.prog (w5.drewN n) = .ok v (w5.drewN n)) ∧ Below bm W w5 := by
  have h0 : (W.alloc (.map #[] 0)).heap[bm]? = some (.map #[] 0) := by rw [← hbm]; exact heap_alloc_new W _
  obtain ⟨h1, h2, h3⟩ := smap_push h0 Tryz.underlying79 Tryz.underlying9 kTok u rfl
  obtain ⟨h4, h5, h6⟩ := smap_push h2 Tryz.underlying79 Tryz.underlying9 kBl v (by rfl)
  refine ⟨_, _, _, by rw [← hbm]; rfl, h1, h4, fun n => ?_, fun n => ?_, ?_⟩
  · exact smap_look (W := World.drewN _ n) h5 Tryz.underlying79 Tryz.underlying9 kTok u 0 (by rfl)
  · exact smap_look (W := World.drewN _ n) h5 Tryz.underlying79 Tryz.underlying9 kBl v 1 (by rfl)
  · have hb := (Below.refl bm W).alloc (by omega) (.map #[] 0)
    have hs : bm ≤ (W.alloc (.map #[] 0)).heap.size := Nat.le_trans (by omega) hb.size
    refine (hb.grown h3 hs (fun k e => by cases e; exact Nat.le_refl _)).grown h6 (Nat.le_trans hs h3.size) (fun k e => by cases e; exact Nat.le_refl _)
/-- within media's Parse: the result variable in block b2, the scanner in bp, at j; the parameters in the row v. -/
structure PIn (w wr : World) (b2 bp : Nat) (s : ByteArray) (j : Nat) (ty : ByteArray) (v : Value) (ps : List (List Int × List Int)) : Prop where
  sc : ScanAt wr bp s j
  out : BlkAt wr b2 #[.string ty, v]
  own : wr.ownsRow (bp + 1) 84 2 v ps.length (parCells ps)
  bl : Below b2 w wr
  lt : b2 < bp
theorem far_row {wr wx : World} {base : Nat} {e : TypeId} {size : Nat} {v : Value} {n : Nat} {xs : List Value} (h : wr.ownsRow base e size v n xs) {p : Nat} (hp : p < base) (hg : wr.grownBy wx (some p)) : wx.ownsRow base e size v n xs := by
  refine h.kept hg ?_
  cases hv : v.ownBlock with
  | none => exact .inl rfl
  | some k =>
    refine .inr fun e => ?_
    injection e with e
    have := (h.lt k hv).1
    omega
theorem PIn.move {w wr wx : World} {b2 bp : Nat} {s : ByteArray} {j : Nat} {ty : ByteArray} {v : Value} {ps : List (List Int × List Int)} (q : PIn w wr b2 bp s j ty v ps) {k : Nat} (hs : ScanAt wx bp s k) (hg : wr.grownBy wx (some bp)) : PIn w wx b2 bp s k ty v ps := by
  have h1 := q.lt
  have h2 := q.out.lt
  exact ⟨hs, q.out.grown hg (fun e => by injection e with e; omega), far_row q.own (Nat.lt_succ_self _) hg, q.bl.grown hg (Nat.le_of_lt h2) (fun k e => by cases e; omega), h1⟩
theorem PIn.below {w wr wx : World} {b2 bp : Nat} {s : ByteArray} {j : Nat} {ty : ByteArray} {v : Value} {ps : List (List Int × List Int)} (q : PIn w wr b2 bp s j ty v ps) (hb : Below wr.heap.size wr wx) : PIn w wx b2 bp s j ty v ps :=
  q.move (q.sc.below hb q.sc.lt) (gr_of_below _ hb)
theorem PIn.app {w wr : World} {b2 bp : Nat} {s : ByteArray} {j : Nat} {ty : ByteArray} {v : Value} {ps : List (List Int × List Int)} (q : PIn w wr b2 bp s j ty v ps) (p : List Int × List Int) (x y : ByteArray) (hx : x = strOfNums p.1) (hy : y = strOfNums p.2) (hn : ps.length < 1099511627776) :
    ∃ a l c w', (Builtin.append_ #[45, 45] 45 #[v, .slice (some ⟨wr.heap.size, 0, none⟩) 1 1]).run Tryz.prog (wr.alloc (.cells #[.string x, .string y] 84)) = .ok (.slice a l c) w' ∧
      BlkAt w' b2 #[.string ty, v] ∧ PIn w (w'.setCell ⟨b2, 1, none⟩ (.slice a l c)) b2 bp s j ty (.slice a l c) (ps ++ [p]) := by
  obtain ⟨v', w', h1, h2, h3⟩ := app_par wr (bp + 1) v ps.length _ q.own x y hn q.sc.lt
  obtain ⟨a, l, c, rfl⟩ := own_slice h2
  have hlt := q.lt
  have ho := q.out.below h3 (by omega)
  have hs := q.sc.below h3 (by omega)
  have hbl := q.bl.trans (h3.mono (by omega))
  refine ⟨a, l, c, w', h1, ho, ⟨?_, ho.set 1 _, ?_, hbl.setCell (p := ⟨b2, 1, none⟩) (Nat.le_refl _) _, hlt⟩⟩
  · obtain ⟨T, hs⟩ := hs
    exact ⟨T, by rw [heap_setCell_other w' ⟨b2, 1, none⟩ bp _ (by show bp ≠ b2; omega), hs]⟩
  · rw [parCells_snoc, ← hx, ← hy]
    simp only [List.length_append, List.length_singleton]
    exact far_row h2 (by omega) (gr_set (gr_refl w' (some b2)) 1 _)
theorem PIn.setTy {w wr : World} {b2 bp : Nat} {s : ByteArray} {j : Nat} {ty : ByteArray} {v : Value} {ps : List (List Int × List Int)} (q : PIn w wr b2 bp s j ty v ps) (ty' : ByteArray) : PIn w (wr.setCell ⟨b2, 0, none⟩ (.string ty')) b2 bp s j ty' v ps := by
  have hlt := q.lt
  obtain ⟨T, hs⟩ := q.sc
  exact ⟨⟨T, by rw [heap_setCell_other wr ⟨b2, 0, none⟩ bp _ (by show bp ≠ b2; omega), hs]⟩, q.out.set 0 _, far_row q.own (by omega) (gr_set (gr_refl wr (some b2)) 0 _), q.bl.setCell (p := ⟨b2, 0, none⟩) (Nat.le_refl _) _, hlt⟩
theorem size_strOfNums (l : List Int) : (strOfNums l).size = l.length := by simp [strOfNums, ByteArray.size]
theorem size_takeWhile (P : Int → Bool) (s : ByteArray) (k : Nat) : (((nums s).drop k).takeWhile P).length ≤ s.size := by
  have h1 := takeWhile_len_le P ((nums s).drop k)
  rw [List.length_drop, nums_length] at h1
  omega
theorem step_append_run {P : Program} {ops : Array Oper} {o : Oper} {a : Act} {w : World} {K : Act → World → Prop} {Q : Exit → Act → World → Prop} {E : Prop} (hgd : o.guard = none) (s x : Operand) (t tx : TypeId)
    (ho : o.op = .call { callee := .builtin .append, args := #[s, x], argTypes := #[t, tx] }) (v xv : Value) (hs : a.eval s = v) (hx : a.eval x = xv) (v' : Value) (w' : World)
    (hr : (Builtin.append_ #[t, tx] o.type #[v, xv]).run P w = .ok v' w') (hK : K (a.put o.dst v') w') :
    if Region.wanted o (yielded ops a.tmps) = true then Oper.wp P o a w K Q else E := by
  have hw : Region.wanted o (yielded ops a.tmps) = true := by simp [Region.wanted, hgd]
  rw [if_pos hw]
  unfold Oper.wp execOp
  simp only [ho, resolve, invoke, builtin, Sem.run_bind, Sem.run_pure, Result.andThen_ok, List.map_toArray, List.map_cons, List.map_nil, hs, hx, hr]
  exact hK
/-- the type's text is put together of its two halves. -/
theorem nums_append (x y : ByteArray) : nums (x ++ y) = nums x ++ nums y := by
  unfold nums
  rw [ByteArray.data_append, Array.toList_append, List.map_append]
theorem isBs_takeWhile (P : Int → Bool) (s : ByteArray) (k : Nat) : isBs (((nums s).drop k).takeWhile P) := fun x hx => nums_isBs s x (List.mem_of_mem_drop (List.takeWhile_prefix P |>.subset hx))
theorem isEmpty_strOfNums {l : List Int} (h : l ≠ []) : (strOfNums l).toList.isEmpty = false := isEmpty_no _ (strOfNums_ne l h)
/-- the name is lowered, and what is then appended. -/
theorem low_appW {w wr : World} {b2 bp : Nat} {s : ByteArray} {j : Nat} {ty : ByteArray} {va : Option Addr} {vl vc : Nat} {ps : List (List Int × List Int)} (q : PIn w wr b2 bp s j ty (.slice va vl vc) ps) (tn : ByteArray) (T : List Int) (hT : nums tn = T) (hz : tn.size ≤ 1099511627776)
    (x : ByteArray) (hx : strOfNums (lowL T) = x) (v2 : List Int) (t : ByteArray) (ht : t = strOfNums v2) (hn : ps.length < 1099511627776) :
    Calls Tryz.prog 53 #[.string tn] wr.drew fun e w6 => e = .returned (.string x) ∧ ∃ a l c w7, (Builtin.append_ #[45, 45] 45 #[.slice va vl vc, .slice (some ⟨w6.heap.size, 0, none⟩) 1 1]).run Tryz.prog (w6.alloc (.cells #[.string x, .string t] 84)) = .ok (.slice a l c) w7 ∧
      w6.cell? ⟨b2, 1, none⟩ = some (.slice va vl vc) ∧ (w6.alloc (.cells #[.string x, .string t] 84)).cell? ⟨b2, 1, none⟩ = some (.slice va vl vc) ∧ w7.cell? ⟨b2, 1, none⟩ = some (.slice va vl vc) ∧ w7.frozen? ⟨b2, 1, none⟩ = false ∧
      PIn w (w7.setCell ⟨b2, 1, none⟩ (.slice a l c)) b2 bp s j ty (.slice a l c) (ps ++ [(lowL T, v2)]) := by
  have q1 : PIn w wr.drew b2 bp s j ty (.slice va vl vc) ps := q.move q.sc (gr_dr (gr_refl _ _))
  refine (media_Lower tn _ hz).mono ?_
  rw [hT, hx]
  rintro e w6 ⟨rfl, hb⟩
  have q2 := q1.below hb
  obtain ⟨a, l, c, w7, h1, h2, h3⟩ := q2.app (lowL T, v2) x t hx.symm ht hn
  exact ⟨rfl, a, l, c, w7, h1, q2.out.cell 1 rfl, (q2.out.alloc _).cell 1 rfl, h2.cell 1 rfl, h2.free 1, h3⟩
set_option maxRecDepth 100000 in
set_option maxHeartbeats 8000000 in
theorem media_Parse (s : ByteArray) (w : World) (hs : s.size ≤ 100000) :
    Calls Tryz.prog 22 #[.string s] w fun e w' => MOut w w' (parseN (nums s)) e := by
  have hA0 := spanN_le isBl s 0 (by omega)
  have hA1 := drop_span isBl s 0
  rw [List.drop_zero] at hA1
  rw [Nat.zero_add] at hA0 hA1
  obtain ⟨A, hA⟩ : ∃ A, spanN isBl s 0 = A := ⟨_, rfl⟩
  rw [hA] at hA0 hA1
  have hE0 := spanN_le isTok s A hA0
  have hE1 := drop_span isTok s A
  obtain ⟨E, hE⟩ : ∃ E, A + spanN isTok s A = E := ⟨_, rfl⟩
  rw [hE] at hE0 hE1
  obtain ⟨sl, hsl⟩ : ∃ sl, atB s E 47 = sl := ⟨_, rfl⟩
  have hV0 : (if sl then E + 1 else E) ≤ s.size := by
    rw [← hsl]
    by_cases h : E < s.size
    · split <;> omega
    · rw [atB_end (by omega)]
      simp
      omega
  obtain ⟨V, hV⟩ : ∃ V, (if sl then E + 1 else E) = V := ⟨_, rfl⟩
  rw [hV] at hV0
  have hF0 := spanN_le isTok s V hV0
  have hF1 := drop_span isTok s V
  obtain ⟨F, hF⟩ : ∃ F, V + spanN isTok s V = F := ⟨_, rfl⟩
  rw [hF] at hF0 hF1
  have hG0 := spanN_le isBl s F hF0
  have hG1 := drop_span isBl s F
  obtain ⟨G, hG⟩ : ∃ G, F + spanN isBl s F = G := ⟨_, rfl⟩
  rw [hG] at hG0 hG1
  have hZ1 := size_takeWhile isTok s A
  have hZ2 := size_takeWhile isTok s V
  have hB1 := isBs_takeWhile isTok s A
  have hB2' := isBs_takeWhile isTok s V
  obtain ⟨T1, hT1⟩ : ∃ T1, ((nums s).drop A).takeWhile isTok = T1 := ⟨_, rfl⟩
  obtain ⟨T2, hT2⟩ : ∃ T2, ((nums s).drop V).takeWhile isTok = T2 := ⟨_, rfl⟩
  rw [hT1] at hB1 hZ1
  rw [hT2] at hB2' hZ2
  obtain ⟨R0, hR0⟩ : ∃ R0, parseN (nums s) = R0 := ⟨_, rfl⟩
  have hdrE : sl = true → (nums s).drop E = 47 :: (nums s).drop V := by
    intro h
    rw [h] at hsl
    rw [if_pos h] at hV
    have hlt : E < s.size := by
      rcases Nat.lt_or_ge E s.size with h | h
      · exact h
      · rw [atB_end h] at hsl; cases hsl
    have h1 := atB_lt hlt 47
    rw [hsl] at h1
    have h2 : (s[E].toNat : Int) = 47 := by simpa using h1.symm
    rw [nums_drop s E hlt, h2, hV]
  have HFL : T1 = [] ∨ sl = false ∨ T2 = [] → R0 = none := by
    intro h
    rw [← hR0]
    by_cases h1 : T1 = []
    · exact parseN_no1 (by rw [← hA1, hT1]; exact h1)
    · cases hsl' : sl with
      | false =>
        rw [hsl'] at hsl
        by_cases hlt : E < s.size
        · have h2 := atB_lt hlt 47
          rw [hsl] at h2
          have h3 : (s[E].toNat : Int) ≠ 47 := by simpa using h2.symm
          exact parseN_no3 (by rw [← hA1, ← hE1]; exact nums_drop s E hlt) h3
        · exact parseN_no2 (by rw [← hA1, ← hE1]; exact nums_drop_end s E (by omega))
      | true =>
        have h2 : T2 = [] := by
          rcases h with h | h | h
          · exact absurd h h1
          · rw [hsl'] at h; cases h
          · exact h
        exact parseN_no4 (by rw [← hA1, ← hE1]; exact hdrE hsl') (by rw [hT2]; exact h2)
  have HSU : T1 ≠ [] → sl = true → T2 ≠ [] → R0 = (parW [] ((nums s).drop G)).map fun ps => (lowL (T1 ++ 47 :: T2), ps) := by
    intro h1 h2 h3
    rw [← hR0, parseN_eq (by rw [← hA1, hT1]; exact h1) (by rw [← hA1, ← hE1]; exact hdrE h2) (by rw [hT2]; exact h3), ← hA1, hT1, hT2, ← hF1, ← hG1]
  rw [hR0]
  have HFAIL := Lib.hid HFL
  have HSUCC := Lib.hid HSU
  have HA := Lib.hid hA
  have HE := Lib.hid hE
  have HV := Lib.hid hV
  have HF := Lib.hid hF
  have HG := Lib.hid hG
  have HSL := Lib.hid hsl
  have HT1 := Lib.hid hT1
  have HT2 := Lib.hid hT2
  clear HFL HSU hA hE hV hF hG hsl hT1 hT2 hR0 hdrE hA1 hE1 hF1 hG1
  go_enter Tryz.func22, Tryz.ntmps22
  go_wp2_with fail
  obtain ⟨w2, hw2⟩ : ∃ w2, (w.alloc (.cells #[.string ⟨#[]⟩, .slice none 0 0] 47)).alloc (.cells #[.string s, .int .i64 0] 77) = w2 := ⟨_, rfl⟩
  have hsz : w2.heap.size = w.heap.size + 2 := by rw [← hw2]; simp
  have hn1 : BlkAt w2 w.heap.size #[.string ⟨#[]⟩, .slice none 0 0] := by rw [← hw2]; exact (BlkAt.new w _ _).alloc _
  have hsc : ScanAt w2 (w.heap.size + 1) s 0 := by
    rw [← hw2]
    have := BlkAt.new (w.alloc (.cells #[.string ⟨#[]⟩, .slice none 0 0] 47)) #[.string s, .int .i64 0] 77
    rw [show (w.alloc (.cells #[.string ⟨#[]⟩, .slice none 0 0] 47)).heap.size = w.heap.size + 1 by simp] at this
    exact this
  have hbl : Below w.heap.size w w2 := by
    rw [← hw2]
    exact ((Below.refl _ w).alloc (Nat.le_refl _) _).alloc (by simp) _
  rw [hw2]
  clear hw2
  obtain ⟨b2, hb2⟩ : ∃ b2, w.heap.size = b2 := ⟨_, rfl⟩
  obtain ⟨bp, hbp⟩ : ∃ bp, b2 + 1 = bp := ⟨_, rfl⟩
  have HB2 := Lib.hid hb2
  rw [hb2] at hn1 hsc hbl hsz ⊢
  rw [hbp] at hsc ⊢
  obtain ⟨w3, w4, w5, hm1, hm2, hm3, hl1, hl2, hb5⟩ := two_entries w2 (bp + 1) (by omega) (.func (.func 50) #[.pointer (some ⟨bp, 0, none⟩)] #[]) (.func (.func 51) #[.pointer (some ⟨bp, 0, none⟩)] #[])
  have q0 : PIn w w5 b2 bp s 0 ⟨#[]⟩ (.slice none 0 0) [] := ⟨hsc.below hb5 (by omega), hn1.below hb5 (by omega), World.ownsRow_nil _ _ _ _, hbl.trans (hb5.mono (by omega)), by omega⟩
  clear hsc hn1 hbl hb5 hb2 hsz hbp
  rw [hm1]
  simp only [Result.andThen]
  rw [Oper.upon_value]
  go_wp2_with fail
  go_quiet (fail)
  clear hm1 hm2 hm3 hl1 hl2
  have q1 : PIn w (w5.drewN nq) b2 bp s 0 ⟨#[]⟩ (.slice none 0 0) [] := q0.move (q0.sc.drewN nq) (gr_dn (gr_refl _ _) nq)
  generalize w5.drewN nq = w6 at q1 ⊢
  clear q0
  go_wp2_with fail
  refine (scan_blanks bp s 0 _ q1.sc (by omega) (by omega)).mono ?_
  rintro e w7 ⟨rfl, h1, h2⟩
  rw [Nat.zero_add, HA.out] at h1
  have q2 := q1.move h1 h2
  clear q1 h1 h2
  go_wp2_with fail
  refine (scan_token bp s A _ q2.sc hA0 (by omega)).mono ?_
  rw [HT1.out]
  rintro e w8 ⟨rfl, h1, h2⟩
  rw [HE.out] at h1
  have q3 := q2.move h1 h2
  clear q2 h1 h2
  go_wp2_with fail
  refine (scan_is 47 bp s E _ q3.sc hE0 (by omega)).mono ?_
  rw [HSL.out]
  rintro e w9 ⟨rfl, h1, h2⟩
  rw [HV.out] at h1
  have q4 := q3.move h1 h2
  clear q3 h1 h2
  go_wp2_with fail
  refine (scan_token bp s V _ q4.sc hV0 (by omega)).mono ?_
  rw [HT2.out]
  rintro e w10 ⟨rfl, h1, h2⟩
  rw [HF.out] at h1
  have q5 := q4.move h1 h2
  clear q4 h1 h2
  have ho0 := q5.out.cell 0 rfl
  have ho1 := q5.out.cell 1 rfl
  have hf0 := q5.out.free 0
  have hf1 := q5.out.free 1
  have h8 := (q5.out.set 0 (.string ⟨#[]⟩)).set 1 (.slice none 0 0)
  have fin : R0 = none → MOut w ((w10.setCell ⟨b2, 0, none⟩ (.string ⟨#[]⟩)).setCell ⟨b2, 1, none⟩ (.slice none 0 0)) R0 (.returned (.tuple #[.agg #[.string ⟨#[]⟩, .slice none 0 0], .int .i64 70])) := by
    intro h
    rw [h]
    refine MOut.no ?_
    rw [HB2.out]
    exact (q5.bl.setCell (p := ⟨b2, 0, none⟩) (Nat.le_refl _) _).setCell (p := ⟨b2, 1, none⟩) (Nat.le_refl _) _
  have FIN := Lib.hid fin
  have H8 := Lib.hid h8
  clear fin h8
  by_cases c1 : T1 = []
  · have hr := HFAIL.out (.inl c1)
    have HRN := Lib.hid hr
    subst c1
    clear hr
    rw [strOfNums_nil]
    go_wp2
    refine bodyPost_ret (results_cell2 rfl _ _ _ _ _ rfl H8.out Tryz.underlying47 rfl (by kernel_rfl)) rfl ?_
    exact FIN.out HRN.out
  · have ne1 := isEmpty_strOfNums c1
    obtain ⟨ta, hta⟩ : ∃ ta, strOfNums T1 = ta := ⟨_, rfl⟩
    rw [hta] at ne1 ⊢
    have HTA := Lib.hid hta
    clear hta
    cases hsl : sl with
    | false =>
      have HRN := Lib.hid (HFAIL.out (.inr (.inl hsl)))
      subst hsl
      clear c1
      go_wp2
      refine bodyPost_ret (results_cell2 rfl _ _ _ _ _ rfl H8.out Tryz.underlying47 rfl (by kernel_rfl)) rfl ?_
      exact FIN.out HRN.out
    | true =>
      by_cases c2 : T2 = []
      · have HRN := Lib.hid (HFAIL.out (.inr (.inr c2)))
        subst hsl
        subst c2
        clear c1
        rw [strOfNums_nil]
        go_wp2
        refine bodyPost_ret (results_cell2 rfl _ _ _ _ _ rfl H8.out Tryz.underlying47 rfl (by kernel_rfl)) rfl ?_
        exact FIN.out HRN.out
      · have ne2 := isEmpty_strOfNums c2
        obtain ⟨tb, htb⟩ : ∃ tb, strOfNums T2 = tb := ⟨_, rfl⟩
        rw [htb] at ne2 ⊢
        have HTB := Lib.hid htb
        have hsu := HSUCC.out c1 hsl c2
        obtain ⟨R, hR⟩ : ∃ R, parW [] ((nums s).drop G) = R := ⟨_, rfl⟩
        obtain ⟨L, hL⟩ : ∃ L, lowL (T1 ++ 47 :: T2) = L := ⟨_, rfl⟩
        rw [hR, hL] at hsu
        have HRR := Lib.hid hR
        have HLL := Lib.hid hL
        have HSX := Lib.hid hsu
        have hR0n : R = none → R0 = none := by
          intro h
          rw [hsu, h]
          rfl
        have HRN := Lib.hid hR0n
        subst hsl
        clear c1 c2 htb hR hL hsu HSUCC HFAIL FIN H8 hR0n
        have hza : ta.size ≤ 100000 := by rw [← HTA.out, size_strOfNums]; omega
        have hzb : tb.size ≤ 100000 := by rw [← HTB.out, size_strOfNums]; omega
        have hza' : ¬ 9223372036854775807 < ta.size + 1 := by omega
        have hzb' : ¬ 9223372036854775807 < ta.size + 1 + tb.size := by omega
        have hnm : nums (ta ++ ⟨#[47]⟩ ++ tb) = T1 ++ 47 :: T2 := by
          rw [nums_append, nums_append, ← HTA.out, ← HTB.out, nums_strOfNums T1 hB1, nums_strOfNums T2 hB2', List.append_assoc]
          rfl
        have hzs : (ta ++ ⟨#[47]⟩ ++ tb).size ≤ 1099511627776 := by
          rw [nums_size, hnm, List.length_append, List.length_cons]
          omega
        obtain ⟨X, hX⟩ : ∃ X, ta ++ ⟨#[47]⟩ ++ tb = X := ⟨_, rfl⟩
        obtain ⟨ty, hty⟩ : ∃ ty, strOfNums L = ty := ⟨_, rfl⟩
        rw [hX] at hnm hzs
        have HLW : ∀ w, Calls Tryz.prog 53 #[.string X] w fun e w' => e = .returned (.string ty) ∧ Below w.heap.size w w' := by
          intro w
          have := media_Lower X w hzs
          rw [hnm, HLL.out, hty] at this
          exact this
        have HTY := Lib.hid hty
        clear hnm hzs hty
        go_wp2_with fail
        refine (HLW _).mono ?_
        rintro e w11 ⟨rfl, hb11⟩
        have q6 := q5.below hb11
        have q7 := q6.setTy ty
        clear hb11 q5 ho0 ho1 hf0 hf1 hza hzb hza' hzb' HTA HTB hB1 hB2' HLW hX
        have ho0 := q6.out.cell 0 rfl
        have hf0 := q6.out.free 0
        go_wp2_with fail
        clear ho0 hf0 q6
        generalize w11.setCell ⟨b2, 0, none⟩ (.string ty) = w12 at q7 ⊢
        refine (scan_blanks bp s F _ q7.sc hF0 (by omega)).mono ?_
        rintro e w13 ⟨rfl, h1, h2⟩
        rw [HG.out] at h1
        have q8 := q7.move h1 h2
        clear q7 h1 h2 ne1 ne2
        go_wp2_with fail
        go_loopw [] (fun wr => ∃ (j : Nat) (ps : List (List Int × List Int)) (v : Value), j ≤ s.size ∧ ps.length ≤ j ∧ parW ps ((nums s).drop j) = R ∧ PIn w wr b2 bp s j ty v ps) (fun wr => s.size - placeOf wr bp)
        case atStart => exact ⟨G, [], _, hG0, by simp, HRR.out, q8⟩
        case round =>
          obtain ⟨j, ps, v, hj, hpl, hpw, q⟩ := hrel
          obtain ⟨va, vl, vc, rfl⟩ := own_slice q.own
          have hplace := placeOf_at q.sc
          have hp0 := q.sc.place
          have FIN := fun (wx : World) (jx : Nat) (qx : PIn w wx b2 bp s jx ty (.slice va vl vc) ps) (hR0 : R = none) => show BlkAt ((wx.setCell ⟨b2, 0, none⟩ (.string ⟨#[]⟩)).setCell ⟨b2, 1, none⟩ (.slice none 0 0)) b2 #[.string ⟨#[]⟩, .slice none 0 0] ∧ MOut w ((wx.setCell ⟨b2, 0, none⟩ (.string ⟨#[]⟩)).setCell ⟨b2, 1, none⟩ (.slice none 0 0)) R0 (.returned (.tuple #[.agg #[.string ⟨#[]⟩, .slice none 0 0], .int .i64 70])) from
            ⟨(qx.out.set 0 _).set 1 _, by rw [HRN.out hR0]; exact MOut.no (by rw [HB2.out]; exact (qx.bl.setCell (p := ⟨b2, 0, none⟩) (Nat.le_refl _) _).setCell (p := ⟨b2, 1, none⟩) (Nat.le_refl _) _)⟩
          have FIN := Lib.hid FIN
          by_cases hlt2 : j < s.size
          · have hl2 := decide_eq_true (show (j : Int) < (s.size : Int) by omega)
            have hdr := nums_drop s j hlt2
            have h1 := atB_lt hlt2 59
            obtain ⟨c, hc⟩ : ∃ c, (s[j].toNat : Int) = c := ⟨_, rfl⟩
            rw [hc] at h1 hdr
            rw [hdr] at hpw
            clear hdr hc
            cases h59 : atB s j 59 with
            | false =>
              rw [h59] at h1
              have h2 : c ≠ 59 := by simpa using h1.symm
              rw [parW_no h2] at hpw
              have HPW := Lib.hid hpw
              have H59 := Lib.hid h59
              clear h1 h2 hpw h59
              go_wp2_with fail
              refine (scan_is 59 bp s j _ q.sc hj (by omega)).mono ?_
              rw [H59.out]
              rintro e wx ⟨rfl, h3, h4⟩
              have q2 := q.move h3 h4
              clear h3 h4
              have ho0 := q2.out.cell 0 rfl
              have ho1 := q2.out.cell 1 rfl
              have hf0 := q2.out.free 0
              have hf1 := q2.out.free 1
              obtain ⟨h8, h9⟩ := FIN.out _ _ q2 HPW.out.symm
              have H8 := Lib.hid h8
              have H9 := Lib.hid h9
              clear h8 h9
              go_wp2
              refine bodyPost_ret (results_cell2 rfl _ _ _ _ _ rfl H8.out Tryz.underlying47 rfl (by kernel_rfl)) rfl ?_
              exact H9.out
            | true =>
              rw [h59] at h1
              have h2 : c = 59 := by simpa using h1.symm
              rw [h2] at hpw
              have H59 := Lib.hid h59
              clear h1 h2 h59
              have hH0 := spanN_le isBl s (j + 1) hlt2
              have hH1 : j + 1 ≤ j + 1 + spanN isBl s (j + 1) := Nat.le_add_right _ _
              have hH2 := drop_span isBl s (j + 1)
              obtain ⟨H, hH⟩ : ∃ H, j + 1 + spanN isBl s (j + 1) = H := ⟨_, rfl⟩
              rw [hH] at hH0 hH1 hH2
              have HH := Lib.hid hH
              clear hH
              by_cases hlt3 : H < s.size
              · have hdr3 := nums_drop s H hlt3
                obtain ⟨d, hd⟩ : ∃ d, s[H].toNat = d := ⟨_, rfl⟩
                have hidx3 := index_str s H hlt3 (d : Int) H (by rw [hd]) rfl
                rw [hdr3, hd] at hH2
                have hne : ((H : Int) == (s.size : Int)) = false := by simp; omega
                by_cases hd59 : (d : Int) = 59
                · have q5' : ((d : Int) == 59) = true := by simp [hd59]
                  have hsp : H + spanN isBl s H = H := by
                    rw [spanN_no hlt3 (by rw [hd, hd59]; rfl)]
                    omega
                  rw [hd59] at hH2
                  rw [parW_semi ps _ _ hH2.symm, ← hd59, ← hd, ← hdr3] at hpw
                  have HPW := Lib.hid hpw
                  have HSP := Lib.hid hsp
                  clear hd59 hd hpw hH2 hdr3 hsp
                  go_wp2_with fail
                  refine (scan_is 59 bp s j _ q.sc hj (by omega)).mono ?_
                  rw [H59.out]
                  rintro e wx ⟨rfl, h3, h4⟩
                  rw [if_pos rfl] at h3
                  have q2 := q.move h3 h4
                  clear h3 h4
                  go_wp2_with fail
                  refine (scan_blanks bp s (j + 1) _ q2.sc hlt2 (by omega)).mono ?_
                  rintro e wy ⟨rfl, h3, h4⟩
                  rw [HH.out] at h3
                  have q3 := q2.move h3 h4
                  clear h3 h4
                  have hp3 := q3.sc.place
                  go_wp2_with fail
                  refine (scan_blanks bp s H _ q3.sc hH0 (by omega)).mono ?_
                  rintro e wz ⟨rfl, h3, h4⟩
                  rw [HSP.out] at h3
                  have q4 := q3.move h3 h4
                  have hpl4 := placeOf_at h3
                  go_wp2_with fail
                  exact ⟨⟨H, ps, _, hH0, by omega, HPW.out, q4⟩, by rw [hpl4, hplace]; omega⟩
                · have q5' : ((d : Int) == 59) = false := by simpa using hd59
                  have hFB : parN ((nums s).drop H) = none → R = none := by
                    intro h
                    rw [hdr3, hd] at h
                    rw [← hpw]
                    exact parW_bad ps _ _ _ hH2.symm hd59 h
                  have hPS : ∀ p u, parN ((nums s).drop H) = some (p, u) → parW (ps ++ [p]) (u.dropWhile isBl) = R ∧ u.length < s.size - H := by
                    intro p u h
                    have hl := parN_len h
                    rw [List.length_drop, nums_length] at hl
                    rw [hdr3, hd] at h
                    rw [← hpw]
                    exact ⟨(parW_par ps _ _ u _ p hH2.symm hd59 h).symm, hl⟩
                  have HFB := Lib.hid hFB
                  have HPS := Lib.hid hPS
                  clear hd59 hd hpw hH2 hdr3 hFB hPS
                  have hE3 := spanN_le isTok s H hH0
                  have hE3a : H ≤ H + spanN isTok s H := Nat.le_add_right _ _
                  have hE3b := drop_span isTok s H
                  have hZ3 := size_takeWhile isTok s H
                  have hB3 := isBs_takeWhile isTok s H
                  obtain ⟨E3, hE3c⟩ : ∃ E3, H + spanN isTok s H = E3 := ⟨_, rfl⟩
                  obtain ⟨T3, hT3⟩ : ∃ T3, ((nums s).drop H).takeWhile isTok = T3 := ⟨_, rfl⟩
                  rw [hE3c] at hE3 hE3a hE3b
                  rw [hT3] at hZ3 hB3
                  have HE3 := Lib.hid hE3c
                  have HT3 := Lib.hid hT3
                  have HE3b := Lib.hid hE3b
                  clear hE3c hT3 hE3b
                  go_wp2_with fail
                  refine (scan_is 59 bp s j _ q.sc hj (by omega)).mono ?_
                  rw [H59.out]
                  rintro e wx ⟨rfl, h3, h4⟩
                  rw [if_pos rfl] at h3
                  have q2 := q.move h3 h4
                  clear h3 h4
                  go_wp2_with fail
                  refine (scan_blanks bp s (j + 1) _ q2.sc hlt2 (by omega)).mono ?_
                  rintro e wy ⟨rfl, h3, h4⟩
                  rw [HH.out] at h3
                  have q3 := q2.move h3 h4
                  clear h3 h4 q2
                  have hp3 := q3.sc.place
                  go_wp2_with fail
                  refine (scan_token bp s H _ q3.sc hH0 (by omega)).mono ?_
                  rw [HT3.out]
                  rintro e wz ⟨rfl, h3, h4⟩
                  rw [HE3.out] at h3
                  have q4 := q3.move h3 h4
                  clear h3 h4 q3 hp3
                  by_cases c3 : T3 = []
                  · have hr := HFB.out (parN_no (by rw [HT3.out]; exact c3))
                    subst c3
                    rw [strOfNums_nil]
                    have ho0 := q4.out.cell 0 rfl
                    have ho1 := q4.out.cell 1 rfl
                    have hf0 := q4.out.free 0
                    have hf1 := q4.out.free 1
                    obtain ⟨h8, h9⟩ := FIN.out _ _ q4 hr
                    have H8 := Lib.hid h8
                    have H9 := Lib.hid h9
                    clear h8 h9 hr
                    go_wp2
                    refine bodyPost_ret (results_cell2 rfl _ _ _ _ _ rfl H8.out Tryz.underlying47 rfl (by kernel_rfl)) rfl ?_
                    exact H9.out
                  · have ne3 := isEmpty_strOfNums c3
                    obtain ⟨tn, htn⟩ : ∃ tn, strOfNums T3 = tn := ⟨_, rfl⟩
                    rw [htn] at ne3 ⊢
                    have HTN := Lib.hid htn
                    have hnT : ((nums s).drop H).takeWhile isTok ≠ [] := by rw [HT3.out]; exact c3
                    have HNT := Lib.hid hnT
                    clear htn c3 hnT
                    cases h61 : atB s E3 61 with
                    | false =>
                      have hpn : parN ((nums s).drop H) = none := by
                        by_cases hlt4 : E3 < s.size
                        · have h5 := atB_lt hlt4 61
                          rw [h61] at h5
                          have h6 : (s[E3].toNat : Int) ≠ 61 := by simpa using h5.symm
                          exact parN_other (by rw [← HE3b.out]; exact nums_drop s E3 hlt4) h6
                        · exact parN_end (by rw [← HE3b.out]; exact nums_drop_end s E3 (by omega))
                      have hr := HFB.out hpn
                      have HR0 := Lib.hid hr
                      have H61 := Lib.hid h61
                      clear hpn hr h61
                      go_wp2_with fail
                      refine (scan_is 61 bp s E3 _ q4.sc hE3 (by omega)).mono ?_
                      rw [H61.out]
                      rintro e wv ⟨rfl, h3, h4⟩
                      have q6 := q4.move h3 h4
                      clear h3 h4
                      have ho0 := q6.out.cell 0 rfl
                      have ho1 := q6.out.cell 1 rfl
                      have hf0 := q6.out.free 0
                      have hf1 := q6.out.free 1
                      obtain ⟨h8, h9⟩ := FIN.out _ _ q6 HR0.out
                      have H8 := Lib.hid h8
                      have H9 := Lib.hid h9
                      clear h8 h9
                      go_wp2
                      refine bodyPost_ret (results_cell2 rfl _ _ _ _ _ rfl H8.out Tryz.underlying47 rfl (by kernel_rfl)) rfl ?_
                      exact H9.out
                    | true =>
                      have hlt4 : E3 < s.size := by
                        rcases Nat.lt_or_ge E3 s.size with h | h
                        · exact h
                        · rw [atB_end h] at h61; cases h61
                      have hpe : parN ((nums s).drop H) = (valN ((nums s).drop (E3 + 1))).map fun vu => ((lowL T3, vu.1), vu.2) := by
                        have h5 := atB_lt hlt4 61
                        rw [h61] at h5
                        have h6 : (s[E3].toNat : Int) = 61 := by simpa using h5.symm
                        rw [parN_eq HNT.out (by rw [← HE3b.out, nums_drop s E3 hlt4, h6]), HT3.out]
                      have H61 := Lib.hid h61
                      clear h61
                      go_wp2_with fail
                      refine (scan_is 61 bp s E3 _ q4.sc hE3 (by omega)).mono ?_
                      rw [H61.out]
                      rintro e wv ⟨rfl, h3, h4⟩
                      rw [if_pos rfl] at h3
                      have q6 := q4.move h3 h4
                      clear h3 h4
                      cases hVV : valN ((nums s).drop (E3 + 1)) with
                      | none =>
                        rw [hVV] at hpe
                        have hr := HFB.out hpe
                        have HR0 := Lib.hid hr
                        have HVV := Lib.hid hVV
                        clear hpe hr hVV
                        go_wp2_with fail
                        refine (scan_value bp s (E3 + 1) _ q6.sc hlt4 (by omega)).mono ?_
                        rw [HVV.out]
                        rintro e wu ⟨t, n, rfl, h3, h5, h4, -⟩
                        have q7 := q6.move h3 h4
                        clear h3 h4
                        have ho0 := q7.out.cell 0 rfl
                        have ho1 := q7.out.cell 1 rfl
                        have hf0 := q7.out.free 0
                        have hf1 := q7.out.free 1
                        obtain ⟨h8, h9⟩ := FIN.out _ _ q7 HR0.out
                        have H8 := Lib.hid h8
                        have H9 := Lib.hid h9
                        clear h8 h9
                        go_wp2
                        refine bodyPost_ret (results_cell2 rfl _ _ _ _ _ rfl H8.out Tryz.underlying47 rfl (by kernel_rfl)) rfl ?_
                        exact H9.out
                      | some vu =>
                        obtain ⟨v2, u⟩ := vu
                        rw [hVV] at hpe
                        obtain ⟨hps1, hps2⟩ := HPS.out _ _ hpe
                        have HPS1 := Lib.hid hps1
                        have HVV := Lib.hid hVV
                        clear hpe hVV hps1
                        go_wp2_with fail
                        refine (scan_value bp s (E3 + 1) _ q6.sc hlt4 (by omega)).mono ?_
                        rw [HVV.out]
                        rintro e wu ⟨t, n, rfl, h3, h5, h4, h6⟩
                        obtain ⟨ht, hu⟩ := h6 v2 u rfl
                        have q7 := q6.move h3 h4
                        have HT := Lib.hid ht
                        have hul : u.length = s.size - n := by rw [hu, List.length_drop, nums_length]
                        have HU := Lib.hid hu
                        clear h3 h4 h6 ht hu q6 q4
                        have hJ0 := spanN_le isBl s n h5
                        have hJ1 : n ≤ n + spanN isBl s n := Nat.le_add_right _ _
                        have hJ2 := drop_span isBl s n
                        obtain ⟨J, hJ⟩ : ∃ J, n + spanN isBl s n = J := ⟨_, rfl⟩
                        rw [hJ] at hJ0 hJ1 hJ2
                        have hpx : parW (ps ++ [(lowL T3, v2)]) ((nums s).drop J) = R := by rw [hJ2, ← HU.out]; exact HPS1.out
                        have HPX := Lib.hid hpx
                        have HJ := Lib.hid hJ
                        have hnt : nums tn = T3 := by rw [← HTN.out]; exact nums_strOfNums T3 hB3
                        have HNTN := Lib.hid hnt
                        have hzt : tn.size ≤ 1099511627776 := by rw [← HTN.out, size_strOfNums]; omega
                        obtain ⟨x, hx⟩ : ∃ x, strOfNums (lowL T3) = x := ⟨_, rfl⟩
                        have HXX := Lib.hid hx
                        have hc0 := q7.out.cell 1 rfl
                        have hc1 : wu.drew.cell? ⟨b2, 1, none⟩ = some (.slice va vl vc) := q7.out.cell 1 rfl
                        clear hJ hJ2 hpx hnt hx FIN hB3
                        go_wp2_with fail
                        go_region_law (first | (refine step_append_run rfl _ _ _ _ rfl _ _ rfl rfl _ _ HA.out ?_) | (go_simp; go_at_call 53; refine (low_appW q7 tn T3 HNTN.out hzt x HXX.out v2 t HT.out (by omega)).mono ?_; rintro e w60 ⟨rfl, na, nl, nc, w70, hr, hc6, hc7, hc8, hf8, q9⟩; have HA := Lib.hid hr; clear hr))
                        all_goals
                          generalize w70.setCell ⟨b2, 1, none⟩ (.slice na nl nc) = w80 at q9 ⊢
                          go_wp2_with fail
                          refine (scan_blanks bp s n _ q9.sc h5 (by omega)).mono ?_
                          rintro e w81 ⟨rfl, h3, h4⟩
                          rw [HJ.out] at h3
                          have q10 := q9.move h3 h4
                          have hpl10 := placeOf_at h3
                          go_wp2_with fail
                          exact ⟨⟨J, ps ++ [(lowL T3, v2)], _, hJ0, by simp; omega, HPX.out, q10⟩, by rw [hpl10, hplace]; omega⟩
              · have hne : ((H : Int) == (s.size : Int)) = true := by simp; omega
                have hdE := nums_drop_end s H (by omega)
                have hsp : H + spanN isBl s H = H := by rw [spanN_end (by omega)]; omega
                rw [hdE] at hH2
                rw [parW_end ps _ hH2.symm] at hpw
                have HPW := Lib.hid (show parW ps ((nums s).drop H) = R by rw [hdE, parW_nil]; exact hpw)
                have HSP := Lib.hid hsp
                clear hH2 hpw hdE hsp
                go_wp2_with fail
                refine (scan_is 59 bp s j _ q.sc hj (by omega)).mono ?_
                rw [H59.out]
                rintro e wx ⟨rfl, h3, h4⟩
                rw [if_pos rfl] at h3
                have q2 := q.move h3 h4
                clear h3 h4
                go_wp2_with fail
                refine (scan_blanks bp s (j + 1) _ q2.sc hlt2 (by omega)).mono ?_
                rintro e wy ⟨rfl, h3, h4⟩
                rw [HH.out] at h3
                have q3 := q2.move h3 h4
                clear h3 h4
                have hp3 := q3.sc.place
                go_wp2_with fail
                refine (scan_blanks bp s H _ q3.sc hH0 (by omega)).mono ?_
                rintro e wz ⟨rfl, h3, h4⟩
                rw [HSP.out] at h3
                have q4 := q3.move h3 h4
                have hpl4 := placeOf_at h3
                go_wp2_with fail
                exact ⟨⟨H, ps, _, hH0, by omega, HPW.out, q4⟩, by rw [hpl4, hplace]; omega⟩
          · have hl2 := decide_eq_false (show ¬ (j : Int) < (s.size : Int) by omega)
            rw [nums_drop_end s j (by omega), parW_nil] at hpw
            have ho0 := q.out.cell 0 rfl
            have ho1 := q.out.cell 1 rfl
            have hf0 := q.out.free 0
            have hf1 := q.out.free 1
            have H8 := Lib.hid ((q.out.set 0 (.string ty)).set 1 (.slice va vl vc))
            have H9 := Lib.hid ((q.bl.setCell (p := ⟨b2, 0, none⟩) (Nat.le_refl _) (.string ty)).setCell (p := ⟨b2, 1, none⟩) (Nat.le_refl _) (.slice va vl vc))
            have hlt := q.lt
            have H11 := Lib.hid (CReads.of_own (far_row q.own (p := b2) (by omega) (gr_set (gr_set (gr_refl wr (some b2)) 0 (.string ty)) 1 (.slice va vl vc))))
            have HSZ := Lib.hid (HSX.out.trans (by rw [← hpw]; rfl : _ = some (L, ps)))
            clear hpw
            go_wp2
            refine bodyPost_ret (results_cell2 rfl _ _ _ _ _ rfl H8.out Tryz.underlying47 rfl (by kernel_rfl)) rfl ?_
            rw [HSZ.out]
            exact ⟨_, by rw [← HTY.out]; rfl, by rw [HB2.out]; exact H9.out, H11.out⟩
end Go.Proofs.YthahfoliblgegaaGreatDoor
/- 
  The walks of Xml and Charset, in media and in the reference; the reference's Same.
 -/
namespace Go.Proofs.YthahfoliblgegaaGreatDoor
open Go.RowKit
def tXml1 (t : ByteArray) : Bool := t.toList == [97, 112, 112, 108, 105, 99, 97, 116, 105, 111, 110, 47, 120, 109, 108]
def tXml2 (t : ByteArray) : Bool := t.toList == [116, 101, 120, 116, 47, 120, 109, 108]
def tXml3 (t : ByteArray) : Bool := decide (4 ≤ t.size) && ((t.extract (t.size - 4) t.size).toList == [43, 120, 109, 108])
def xmlB (t : ByteArray) : Bool := tXml1 t || tXml2 t || tXml3 t
theorem lite_HasSuffix (s t : ByteArray) (w : World) (hs : s.size ≤ 1000000) :
    Calls Tryz.prog 116 #[.string s, .string t] w fun e w' => e = .returned (.bool (decide (t.size ≤ s.size) && ((s.extract (s.size - t.size) s.size).toList == t.toList))) ∧ w = w' := by
  by_cases h : t.size ≤ s.size
  · have h1 := decide_eq_true (show (t.size : Int) ≤ (s.size : Int) by omega)
    have h2 := decide_eq_true h
    have h3 : (s.size : Int) - (t.size : Int) = ((s.size - t.size : Nat) : Int) := by omega
    rw [h2]
    go_enter Tryz.func116, Tryz.ntmps116
    go_wp2
    go_ret
    exact ⟨by rw [Bool.true_and]; rfl, rfl⟩
  · have h1 := decide_eq_false (show ¬ (t.size : Int) ≤ (s.size : Int) by omega)
    have h2 := decide_eq_false h
    rw [h2]
    go_enter Tryz.func116, Tryz.ntmps116
    go_wp2
    go_ret
    exact ⟨rfl, rfl⟩
theorem strings_HasSuffix (s t : ByteArray) (w : World) (hs : s.size ≤ 1000000) :
    Calls Tryz.prog 75 #[.string s, .string t] w fun e w' => e = .returned (.bool (decide (t.size ≤ s.size) && ((s.extract (s.size - t.size) s.size).toList == t.toList))) ∧ w = w' := by
  have hc := lite_HasSuffix s t w hs
  obtain ⟨b, hb⟩ : ∃ b, (decide (t.size ≤ s.size) && ((s.extract (s.size - t.size) s.size).toList == t.toList)) = b := ⟨_, rfl⟩
  rw [hb] at hc ⊢
  clear hb
  go_enter Tryz.func75, Tryz.ntmps75
  go_wp2_with fail
  refine hc.mono ?_
  rintro e w' ⟨rfl, rfl⟩
  go_wp2
  go_ret
  exact ⟨rfl, rfl⟩
theorem media_Xml (t : ByteArray) (v : Value) (w : World) (hs : t.size ≤ 1000000) :
    Calls Tryz.prog 34 #[.agg #[.string t, v]] w fun e w' => e = .returned (.bool (xmlB t)) ∧ Below w.heap.size w w' := by
  have HX := Lib.hid (show xmlB t = (tXml1 t || tXml2 t || tXml3 t) from rfl)
  have h3 := fun w => strings_HasSuffix t ⟨#[43, 120, 109, 108]⟩ w hs
  have hq : (decide ((⟨#[43, 120, 109, 108]⟩ : ByteArray).size ≤ t.size) && ((t.extract (t.size - (⟨#[43, 120, 109, 108]⟩ : ByteArray).size) t.size).toList == (⟨#[43, 120, 109, 108]⟩ : ByteArray).toList)) = tXml3 t := by
    rw [ByteArray.toList_eq ⟨#[43, 120, 109, 108]⟩]
    rfl
  rw [hq] at h3
  clear hq
  obtain ⟨b3, hb3⟩ : ∃ b, tXml3 t = b := ⟨_, rfl⟩
  rw [hb3] at h3 HX
  clear hb3
  cases h1 : tXml1 t with
  | true =>
    rw [h1] at HX
    unfold tXml1 at h1
    have hb := (Below.refl w.heap.size w).alloc (Nat.le_refl _) (.cells #[.string t, v] 47)
    go_enter Tryz.func34, Tryz.ntmps34
    go_wp2_with fail
    go_ret
    exact ⟨by rw [HX.out]; rfl, hb⟩
  | false =>
    rw [h1] at HX
    unfold tXml1 at h1
    have hb := (Below.refl w.heap.size w).alloc (Nat.le_refl _) (.cells #[.string t, v] 47)
    cases h2 : tXml2 t with
    | true =>
      rw [h2] at HX
      unfold tXml2 at h2
      go_enter Tryz.func34, Tryz.ntmps34
      go_wp2_with fail
      go_ret
      exact ⟨by rw [HX.out]; rfl, hb⟩
    | false =>
      rw [h2] at HX
      unfold tXml2 at h2
      go_enter Tryz.func34, Tryz.ntmps34
      go_wp2_with fail
      refine (h3 _).mono ?_
      rintro e w' ⟨rfl, rfl⟩
      go_wp2
      go_ret
      exact ⟨by rw [HX.out]; rfl, hb⟩
theorem ref06_Xml (t : ByteArray) (v : Value) (w : World) (hs : t.size ≤ 1000000) :
    Calls Tryz.prog 36 #[.agg #[.string t, v]] w fun e w' => e = .returned (.bool (xmlB t)) ∧ Below w.heap.size w w' := by
  have HX := Lib.hid (show xmlB t = (tXml1 t || tXml2 t || tXml3 t) from rfl)
  have hb := (Below.refl w.heap.size w).alloc (Nat.le_refl _) (.cells #[.string t, v] 47)
  cases h1 : tXml1 t with
  | true =>
    rw [h1] at HX
    unfold tXml1 at h1
    go_enter Tryz.func36, Tryz.ntmps36
    go_wp2_with fail
    go_ret
    exact ⟨by rw [HX.out]; rfl, hb⟩
  | false =>
    rw [h1] at HX
    unfold tXml1 at h1
    cases h2 : tXml2 t with
    | true =>
      rw [h2] at HX
      unfold tXml2 at h2
      go_enter Tryz.func36, Tryz.ntmps36
      go_wp2_with fail
      go_ret
      exact ⟨by rw [HX.out]; rfl, hb⟩
    | false =>
      rw [h2] at HX
      unfold tXml2 at h2
      have HX3 := Lib.hid (show tXml3 t = (decide (4 ≤ t.size) && ((t.extract (t.size - 4) t.size).toList == [43, 120, 109, 108])) from rfl)
      by_cases h4 : 4 ≤ t.size
      · have h5 := decide_eq_true (show (4 : Int) ≤ (t.size : Int) by omega)
        have h6 := decide_eq_true h4
        have h7 : (t.size : Int) - 4 = ((t.size - 4 : Nat) : Int) := by omega
        rw [h6] at HX3
        go_enter Tryz.func36, Tryz.ntmps36
        go_wp2_with fail
        go_ret
        exact ⟨by rw [HX.out, HX3.out]; rfl, hb⟩
      · have h5 := decide_eq_false (show ¬ (4 : Int) ≤ (t.size : Int) by omega)
        have h6 := decide_eq_false h4
        rw [h6] at HX3
        go_enter Tryz.func36, Tryz.ntmps36
        go_wp2_with fail
        go_ret
        exact ⟨by rw [HX.out, HX3.out]; rfl, hb⟩
/-- pairs of texts, in cells. -/
def pairCells (qs : List (ByteArray × ByteArray)) : List Value := qs.flatMap fun q => [.string q.1, .string q.2]
theorem pairCells_length (qs : List (ByteArray × ByteArray)) : (pairCells qs).length = 2 * qs.length := by
  induction qs with
  | nil => rfl
  | cons q qs ih =>
    show ([Value.string q.1, .string q.2] ++ pairCells qs).length = _
    rw [List.length_append, ih, List.length_cons]
    simp
    omega
theorem pairCells_at (qs : List (ByteArray × ByteArray)) (i : Nat) (q : ByteArray × ByteArray) (h : qs[i]? = some q) : (pairCells qs)[i * 2]? = some (.string q.1) ∧ (pairCells qs)[i * 2 + 1]? = some (.string q.2) := by
  induction qs generalizing i with
  | nil => simp at h
  | cons p qs ih =>
    cases i with
    | zero =>
      simp at h
      subst h
      exact ⟨rfl, rfl⟩
    | succ i =>
      have := ih i (by simpa using h)
      show ([Value.string p.1, .string p.2] ++ pairCells qs)[(i + 1) * 2]? = _ ∧ ([Value.string p.1, .string p.2] ++ pairCells qs)[(i + 1) * 2 + 1]? = _
      rw [show (i + 1) * 2 = i * 2 + 2 by omega, show i * 2 + 2 + 1 = (i * 2 + 1) + 2 by omega]
      exact this
/-- the pair at k, read. -/
theorem CReads.pair {B : Nat} {w : World} {v : Value} {n : Nat} {qs : List (ByteArray × ByteArray)} (hr : CReads B w v n (pairCells qs)) {C : Nat} {wr : World} (hb : Below C w wr) (hBC : B ≤ C) (k : Nat) (hk : k < qs.length) :
    ∃ b off cap q1 q2, v = .slice (some ⟨b, off, none⟩) n cap ∧ qs[k]? = some (q1, q2) ∧ qs.drop k = (q1, q2) :: qs.drop (k + 1) ∧ wr.cell? ⟨b, off + k * 2, none⟩ = some (.string q1) ∧ wr.cell? ⟨b, off + k * 2 + 1, none⟩ = some (.string q2) := by
  obtain ⟨a, cap, rfl, hc⟩ := hr
  have hq := List.getElem?_eq_getElem hk
  obtain ⟨q, hqq⟩ : ∃ q, qs[k] = q := ⟨_, rfl⟩
  rw [hqq] at hq
  have hdr : qs.drop k = q :: qs.drop (k + 1) := by rw [← hqq, List.drop_eq_getElem_cons hk]
  obtain ⟨h0, h1⟩ := pairCells_at qs k q hq
  obtain ⟨b, off, rfl, hbB, hc0⟩ := hc _ _ h0
  obtain ⟨b', off', hbb, _, hc1⟩ := hc _ _ h1
  cases hbb
  exact ⟨b, off, cap, q.1, q.2, rfl, hq, hdr, (hb.cell (p := ⟨b, off + k * 2, none⟩) (by show b < _; omega)).trans hc0, (hb.cell (p := ⟨b, off + (k * 2 + 1), none⟩) (by show b < _; omega)).trans hc1⟩
def pairsOf (ps : List (List Int × List Int)) : List (ByteArray × ByteArray) := ps.map fun p => (strOfNums p.1, strOfNums p.2)
theorem parCells_pairs (ps : List (List Int × List Int)) : parCells ps = pairCells (pairsOf ps) := by
  unfold parCells pairCells pairsOf
  rw [List.flatMap_map]
/-- the charset. -/
def charB : List (ByteArray × ByteArray) → ByteArray × Bool
  | [] => (⟨#[]⟩, false)
  | q :: qs => if q.1.toList == [99, 104, 97, 114, 115, 101, 116] then (q.2, true) else charB qs
set_option maxRecDepth 100000 in
theorem media_Charset (B : Nat) (t : ByteArray) (v : Value) (qs : List (ByteArray × ByteArray)) (w : World) (hr : CReads B w v qs.length (pairCells qs)) (hB : B ≤ w.heap.size) (hn : qs.length ≤ 1000000) :
    Calls Tryz.prog 23 #[.agg #[.string t, v]] w fun e w' => e = .returned (.tuple #[.string (charB qs).1, .bool (charB qs).2]) ∧ Below w.heap.size w w' := by
  have hr0 := hr
  obtain ⟨a, cap, rfl, -⟩ := hr0
  obtain ⟨R, hR⟩ : ∃ R, charB qs = R := ⟨_, rfl⟩
  rw [hR]
  have HR := Lib.hid hR
  clear hR
  have hb := (Below.refl w.heap.size w).alloc (Nat.le_refl _) (.cells #[.string t, .slice a qs.length cap] 47)
  go_enter Tryz.func23, Tryz.ntmps23
  go_wp2_with fail
  go_loopw [9] (fun i wr => ∃ k : Nat, i = .int .i64 k ∧ k ≤ qs.length ∧ charB (qs.drop k) = R ∧ Below w.heap.size w wr) (fun i _ => qs.length - (intOf i).toNat)
  case atStart => exact ⟨0, rfl, by omega, by rw [List.drop_zero]; exact HR.out, hb⟩
  case round =>
    obtain ⟨k, rfl, hk, hch, hbw⟩ := hrel
    by_cases hlt : k < qs.length
    · obtain ⟨b, off, cap', q1, q2, hv, -, hdr, hw0, hw1⟩ := hr.pair hbw hB k hlt
      cases hv
      rw [hdr, charB] at hch
      have hba := hbw.alloc hbw.size (.cells #[.string q1, .string q2] 84)
      cases he : (q1.toList == [99, 104, 97, 114, 115, 101, 116]) with
      | true =>
        rw [he, if_pos rfl] at hch
        have HC := Lib.hid hch
        clear hch hdr hr
        go_wp2_with fail
        go_ret2
        exact ⟨by rw [← HC.out]; rfl, hba⟩
      | false =>
        rw [he, if_neg (by decide)] at hch
        have HC := Lib.hid hch
        clear hch hdr hr
        go_wp2_with fail
        exact ⟨⟨k + 1, by go_num, by omega, HC.out, hba⟩, by simp [intOf]; omega⟩
    · rw [List.drop_eq_nil_of_le (by omega)] at hch
      have HC := Lib.hid hch
      clear hch hr
      go_wp2_with fail
      go_ret2
      exact ⟨by rw [← HC.out]; rfl, hbw⟩
set_option maxRecDepth 100000 in
theorem ref06_Charset (B : Nat) (t : ByteArray) (v : Value) (qs : List (ByteArray × ByteArray)) (w : World) (hr : CReads B w v qs.length (pairCells qs)) (hB : B ≤ w.heap.size) (hn : qs.length ≤ 1000000) :
    Calls Tryz.prog 29 #[.agg #[.string t, v]] w fun e w' => e = .returned (.tuple #[.string (charB qs).1, .bool (charB qs).2]) ∧ Below w.heap.size w w' := by
  have hr0 := hr
  obtain ⟨a, cap, rfl, -⟩ := hr0
  obtain ⟨R, hR⟩ : ∃ R, charB qs = R := ⟨_, rfl⟩
  rw [hR]
  have HR := Lib.hid hR
  clear hR
  have hb := (Below.refl w.heap.size w).alloc (Nat.le_refl _) (.cells #[.string t, .slice a qs.length cap] 47)
  have hn1 := BlkAt.new w #[.string t, .slice a qs.length cap] 47
  obtain ⟨bm, hbm⟩ : ∃ bm, w.heap.size = bm := ⟨_, rfl⟩
  go_enter Tryz.func29, Tryz.ntmps29
  go_wp2_with fail
  rw [hbm] at hn1 hb
  generalize w.alloc (.cells #[.string t, .slice a qs.length cap] 47) = w1 at hn1 hb ⊢
  go_loop [4] (fun i => ∃ k : Nat, i = .int .i64 k ∧ k ≤ qs.length ∧ charB (qs.drop k) = R) (fun i => qs.length - (intOf i).toNat)
  case atStart => exact ⟨0, rfl, by omega, by rw [List.drop_zero]; exact HR.out⟩
  case round =>
    obtain ⟨k, rfl, hk, hch⟩ := hrel
    have hcc := hn1.cell 1 rfl
    by_cases hlt : k < qs.length
    · obtain ⟨b, off, cap', q1, q2, hv, -, hdr, hw0, hw1⟩ := hr.pair hb (by omega) k hlt
      cases hv
      rw [hdr, charB] at hch
      cases he : (q1.toList == [99, 104, 97, 114, 115, 101, 116]) with
      | true =>
        rw [he, if_pos rfl] at hch
        have HC := Lib.hid hch
        clear hch hdr hr
        go_wp2_with fail
        go_ret2
        exact ⟨by rw [← HC.out]; rfl, hb⟩
      | false =>
        rw [he, if_neg (by decide)] at hch
        have HC := Lib.hid hch
        clear hch hdr hr
        go_wp2_with fail
        exact ⟨⟨k + 1, by go_num, by omega, HC.out⟩, by simp [intOf]; omega⟩
    · rw [List.drop_eq_nil_of_le (by omega)] at hch
      have HC := Lib.hid hch
      clear hch hr
      go_wp2_with fail
      go_ret2
      exact ⟨by rw [← HC.out]; rfl, hb⟩
end Go.Proofs.YthahfoliblgegaaGreatDoor
/- 
  What the reader of Content-Types comes to, in size; wakes; MediaReads.
 -/
namespace Go.Proofs.YthahfoliblgegaaGreatDoor
open Go.RowKit
theorem parA_len : ∀ (f : Nat) (acc : List (List Int × List Int)) (l : List Int) (ps : List (List Int × List Int)), parA f acc l = some ps → ps.length ≤ acc.length + l.length
  | 0, _, _, _, h => by cases h
  | f + 1, acc, [], ps, h => by cases h; simp
  | f + 1, acc, c :: r, ps, h => by
    have hd := dropWhile_len isBl r
    unfold parA at h
    split at h
    · cases h
    · split at h
      · cases h; simp
      · rename_i d q hq
        rw [hq] at hd
        simp only [List.length_cons] at hd ⊢
        split at h
        · have := parA_len f acc (d :: q) ps h
          simp only [List.length_cons] at this
          omega
        · split at h
          · cases h
          · rename_i p u hp
            have h1 := parN_len hp
            have h2 := dropWhile_len isBl u
            have h3 := parA_len f _ _ ps h
            simp only [List.length_append, List.length_cons, List.length_nil] at h1 h3
            omega
theorem parseN_len {l : List Int} {t : List Int} {ps : List (List Int × List Int)} (h : parseN l = some (t, ps)) : t.length ≤ l.length ∧ ps.length ≤ l.length := by
  by_cases c1 : (l.dropWhile isBl).takeWhile isTok = []
  · rw [parseN_no1 c1] at h; cases h
  · cases c2 : (l.dropWhile isBl).dropWhile isTok with
    | nil => rw [parseN_no2 c2] at h; cases h
    | cons c r =>
      by_cases c3 : c = 47
      · subst c3
        by_cases c4 : r.takeWhile isTok = []
        · rw [parseN_no4 c2 c4] at h; cases h
        · rw [parseN_eq c1 c2 c4] at h
          cases hp : parW [] ((r.dropWhile isTok).dropWhile isBl) with
          | none => rw [hp] at h; cases h
          | some qs =>
            rw [hp] at h
            simp only [Option.map_some, Option.some.injEq, Prod.mk.injEq] at h
            obtain ⟨rfl, rfl⟩ := h
            have h1 := dropWhile_len isBl l
            have h2 := congrArg List.length (List.takeWhile_append_dropWhile (p := isTok) (l := l.dropWhile isBl))
            have h3 := congrArg List.length (List.takeWhile_append_dropWhile (p := isTok) (l := r))
            have h4 := dropWhile_len isBl (r.dropWhile isTok)
            have h5 := parA_len _ _ _ _ hp
            rw [c2, List.length_append, List.length_cons] at h2
            rw [List.length_append] at h3
            simp only [List.length_nil] at h5
            constructor
            · unfold lowL
              rw [List.length_map, List.length_append, List.length_cons]
              omega
            · omega
      · rw [parseN_no3 c2 c3] at h; cases h
theorem medR_len (l : List Int) : (medR (parseN l)).1.length ≤ l.length ∧ (medR (parseN l)).2.length ≤ l.length := by
  cases h : parseN l with
  | none => simp [medR]
  | some x =>
    obtain ⟨t, ps⟩ := x
    exact parseN_len h
theorem pairsOf_length (ps : List (List Int × List Int)) : (pairsOf ps).length = ps.length := by unfold pairsOf; rw [List.length_map]
/-- MOut, in texts. -/
theorem MOut.out {w w' : World} {R : Option (List Int × List (List Int × List Int))} {e : Ending} (h : MOut w w' R e) :
    ∃ v, e = .returned (.tuple #[.agg #[.string (strOfNums (medR R).1), v], .int .i64 (if R.isSome then 0 else 70)]) ∧ Below w.heap.size w w' ∧ CReads w'.heap.size w' v (pairsOf (medR R).2).length (pairCells (pairsOf (medR R).2)) := by
  obtain ⟨v, h1, h2, h3⟩ := h
  rw [parCells_pairs] at h3
  rw [pairsOf_length]
  exact ⟨v, h1, h2, h3⟩
end Go.Proofs.YthahfoliblgegaaGreatDoor
/- 
  Layer 7 in plain terms: marks, shapes, a declaration's parts.
 -/
namespace Go.Proofs.YthahfoliblgegaaGreatDoor
/-- white space. -/
def whN (c : Int) : Bool := c == 32 || c == 9 || c == 10 || c == 13
/-- a small letter. -/
def smN (c : Int) : Bool := decide (97 ≤ c ∧ c ≤ 122)
/-- where a byte first stands. -/
def posN (q : Int) : List Int → Option Nat
  | [] => none
  | c :: t => if c = q then some 0 else (posN q t).map (· + 1)
theorem posN_lt (q : Int) : ∀ (l : List Int) (n : Nat), posN q l = some n → n < l.length
  | [], n, h => by cases h
  | c :: t, n, h => by
    rw [posN] at h
    split at h
    · cases h; simp
    · cases e : posN q t with
      | none => rw [e] at h; cases h
      | some m =>
        rw [e] at h
        cases h
        have := posN_lt q t m e
        simp only [List.length_cons]; omega
/-- a value between quotes, and what is behind. -/
def valD : List Int → Option (List Int × List Int)
  | [] => none
  | q :: v => if q = 34 ∨ q = 39 then (posN q v).map fun i => (v.take i, v.drop (i + 1)) else none
/-- a part at the front: the name, the value, what is behind. -/
def partD (s : List Int) : Option ((List Int × List Int) × List Int) :=
  if s.takeWhile whN = [] then none
  else if (s.dropWhile whN).takeWhile smN = [] then none
  else match ((s.dropWhile whN).dropWhile smN).dropWhile whN with
    | 61 :: t => (valD (t.dropWhile whN)).map fun p => (((s.dropWhile whN).takeWhile smN, p.1), p.2)
    | _ => none
theorem valD_lt {l : List Int} {p : List Int × List Int} (h : valD l = some p) : p.2.length < l.length := by
  cases l with
  | nil => cases h
  | cons q v =>
    rw [valD] at h
    split at h
    · cases e : posN q v with
      | none => rw [e] at h; cases h
      | some i =>
        rw [e] at h
        cases h
        have := posN_lt q v i e
        simp only [List.length_drop, List.length_cons]; omega
    · cases h
theorem drop_len (P : Int → Bool) (l : List Int) : (l.dropWhile P).length ≤ l.length := (List.dropWhile_suffix P).length_le
theorem partD_lt {s : List Int} {p : (List Int × List Int) × List Int} (h : partD s = some p) : p.2.length < s.length := by
  unfold partD at h
  split at h
  · cases h
  · split at h
    · cases h
    · have h1 := drop_len whN s
      have h2 := drop_len smN (s.dropWhile whN)
      have h3 := drop_len whN ((s.dropWhile whN).dropWhile smN)
      split at h
      · rename_i t e
        rw [e] at h3
        simp only [List.length_cons] at h3
        cases e2 : valD (t.dropWhile whN) with
        | none => rw [e2] at h; cases h
        | some v =>
          rw [e2] at h
          cases h
          have h4 := valD_lt e2
          have h5 := drop_len whN t
          show v.2.length < s.length
          omega
      · cases h
/-- all parts, by fuel. -/
def parD : Nat → List Int → List (List Int × List Int)
  | 0, _ => []
  | f + 1, s => match partD s with
    | none => []
    | some p => p.1 :: parD f p.2
theorem parD_fuel : ∀ (f g : Nat) (s : List Int), s.length < f → s.length < g → parD f s = parD g s
  | 0, _, _, h, _ => absurd h (by omega)
  | _, 0, _, _, h => absurd h (by omega)
  | f + 1, g + 1, s, hf, hg => by
    rw [parD, parD]
    cases e : partD s with
    | none => rfl
    | some p =>
      have := partD_lt e
      show p.1 :: parD f p.2 = p.1 :: parD g p.2
      rw [parD_fuel f g p.2 (by omega) (by omega)]
end Go.Proofs.YthahfoliblgegaaGreatDoor
