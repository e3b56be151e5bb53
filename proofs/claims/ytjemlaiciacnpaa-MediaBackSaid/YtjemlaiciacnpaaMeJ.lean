/-
  A map of the call's own with two entries, keyed by strings; the walk of media's Parse.
-/
import Derived.Test.YtjemlaiciacnpaaMeI
import Derived.Maps.OwnOps
import Derived.Deep.RegionLaw
namespace Go.Proofs.Ytjemlaiciacnpaa
open Go.RowKit
open Go.ChangeMaps in
theorem smap_push {W : World} {b : Nat} {es : Array MapEntry} {clock : Nat} (hb : W.heap[b]? = some (.map es clock)) {t kt et : TypeId} (ht : Try.prog.underlying t = some (.map kt et)) (hk : Try.prog.underlying kt = some .string) (k : ByteArray) (v : Value)
    (hf : Instr.findNow .string (.string k) es.toList 0 = some none) :
    (Instr.mapUpdate t (.map (some b)) (.string k) v).run Try.prog W = .ok () (setBlock W b (.map (es.push { key := .string k, val := v, born := clock }) (clock + 1))) ∧
    (setBlock W b (.map (es.push { key := .string k, val := v, born := clock }) (clock + 1))).heap[b]? = some (.map (es.push { key := .string k, val := v, born := clock }) (clock + 1)) ∧
    W.grownBy (setBlock W b (.map (es.push { key := .string k, val := v, born := clock }) (clock + 1))) (some b) := by
  have hg := MapKept.run_getObj_map (P := Try.prog) hb
  have hck : ∀ em, (Instr.checkKey em 10000 kt (.string k)).run Try.prog W = .ok () W := fun em => MapKept.run_checkKey hk (by simp [MapKept.IsKey]) em 9999
  have hf : (Instr.findKey kt (.string k) es.toList).run Try.prog W = .ok none W := by simp [Instr.findKey, run_underlying hk, hf]
  refine ⟨?_, heap_setBlock_same hb _, ⟨rfl, rfl, rfl, by simp [setBlock], fun i _ hi => heap_setBlock_other hb _ (fun e => hi (by rw [e]))⟩⟩
  simp [Instr.mapUpdate, run_underlying ht, hg, hck, hf, MapKept.run_setObj_map _ hb, Result.andThen, setBlock]
theorem smap_look {W : World} {b : Nat} {es : Array MapEntry} {clock : Nat} (hb : W.heap[b]? = some (.map es clock)) {t kt et : TypeId} (ht : Try.prog.underlying t = some (.map kt et)) (hk : Try.prog.underlying kt = some .string) (k : ByteArray) (v : Value) (j : Nat)
    (hf : Instr.findNow .string (.string k) es.toList 0 = some (some (j, v))) :
    (Instr.lookup t (.map (some b)) (.string k) false).run Try.prog W = .ok v W := by
  have hg := MapKept.run_getObj_map (P := Try.prog) hb
  have hck : ∀ em, (Instr.checkKey em 10000 kt (.string k)).run Try.prog W = .ok () W := fun em => MapKept.run_checkKey hk (by simp [MapKept.IsKey]) em 9999
  have hf : (Instr.findKey kt (.string k) es.toList).run Try.prog W = .ok (some (j, v)) W := by simp only [Instr.findKey, Sem.run_bind, run_underlying hk, Result.andThen_ok, hf, Sem.run_pure]
  simp [Instr.lookup, run_underlying ht, hg, hck, hf, Result.andThen]
def kTok : ByteArray := ⟨#[116, 111, 107, 101, 110]⟩
def kBl : ByteArray := ⟨#[98, 108, 97, 110, 107, 115]⟩
/-- the world behind the two entries of the map bm. -/
theorem two_entries (W : World) (bm : Nat) (hbm : W.heap.size = bm) (u v : Value) : ∃ w3 w4 w5 : World, (Instr.makeMap 43 none).run Try.prog W = .ok (.map (some bm)) w3 ∧
    (Instr.mapUpdate 43 (.map (some bm)) (.string ⟨#[116, 111, 107, 101, 110]⟩) u).run Try.prog w3 = .ok () w4 ∧ (Instr.mapUpdate 43 (.map (some bm)) (.string ⟨#[98, 108, 97, 110, 107, 115]⟩) v).run Try.prog w4 = .ok () w5 ∧
    (∀ n, (Instr.lookup 43 (.map (some bm)) (.string ⟨#[116, 111, 107, 101, 110]⟩) false).run Try.prog (w5.drewN n) = .ok u (w5.drewN n)) ∧
    (∀ n, (Instr.lookup 43 (.map (some bm)) (.string ⟨#[98, 108, 97, 110, 107, 115]⟩) false).run Try.prog (w5.drewN n) = .ok v (w5.drewN n)) ∧ Below bm W w5 := by
  have h0 : (W.alloc (.map #[] 0)).heap[bm]? = some (.map #[] 0) := by rw [← hbm]; exact heap_alloc_new W _
  obtain ⟨h1, h2, h3⟩ := smap_push h0 Try.underlying43 Try.underlying9 kTok u rfl
  obtain ⟨h4, h5, h6⟩ := smap_push h2 Try.underlying43 Try.underlying9 kBl v (by rfl)
  refine ⟨_, _, _, by rw [← hbm]; rfl, h1, h4, fun n => ?_, fun n => ?_, ?_⟩
  · exact smap_look (W := World.drewN _ n) h5 Try.underlying43 Try.underlying9 kTok u 0 (by rfl)
  · exact smap_look (W := World.drewN _ n) h5 Try.underlying43 Try.underlying9 kBl v 1 (by rfl)
  · have hb := (Below.refl bm W).alloc (by omega) (.map #[] 0)
    have hs : bm ≤ (W.alloc (.map #[] 0)).heap.size := Nat.le_trans (by omega) hb.size
    refine (hb.grown h3 hs (fun k e => by cases e; exact Nat.le_refl _)).grown h6 (Nat.le_trans hs h3.size) (fun k e => by cases e; exact Nat.le_refl _)
/-- within media's Parse: the result variable in block b2, the scanner in bp, at j; the parameters in the row v. -/
structure PIn (w wr : World) (b2 bp : Nat) (s : ByteArray) (j : Nat) (ty : ByteArray) (v : Value) (ps : List (List Int × List Int)) : Prop where
  sc : ScanAt wr bp s j
  out : BlkAt wr b2 #[.string ty, v]
  own : wr.ownsRow (bp + 1) 47 2 v ps.length (parCells ps)
  bl : Below b2 w wr
  lt : b2 < bp
theorem far_row {wr wx : World} {base : Nat} {e : TypeId} {size : Nat} {v : Value} {n : Nat} {xs : List Value} (h : wr.ownsRow base e size v n xs) {p : Nat} (hp : p < base) (hg : wr.grownBy wx (some p)) : wx.ownsRow base e size v n xs := by
  refine h.kept hg ?_
  cases hv : v.ownBlock with
  | none => exact .inl rfl
  | some k =>
    refine .inr fun e => ?_
    injection e with e
    have := (h.lt k hv).1
    omega
theorem PIn.move {w wr wx : World} {b2 bp : Nat} {s : ByteArray} {j : Nat} {ty : ByteArray} {v : Value} {ps : List (List Int × List Int)} (q : PIn w wr b2 bp s j ty v ps) {k : Nat} (hs : ScanAt wx bp s k) (hg : wr.grownBy wx (some bp)) : PIn w wx b2 bp s k ty v ps := by
  have h1 := q.lt
  have h2 := q.out.lt
  exact ⟨hs, q.out.grown hg (fun e => by injection e with e; omega), far_row q.own (Nat.lt_succ_self _) hg, q.bl.grown hg (Nat.le_of_lt h2) (fun k e => by cases e; omega), h1⟩
theorem PIn.below {w wr wx : World} {b2 bp : Nat} {s : ByteArray} {j : Nat} {ty : ByteArray} {v : Value} {ps : List (List Int × List Int)} (q : PIn w wr b2 bp s j ty v ps) (hb : Below wr.heap.size wr wx) : PIn w wx b2 bp s j ty v ps :=
  q.move (q.sc.below hb q.sc.lt) (gr_of_below _ hb)
theorem PIn.app {w wr : World} {b2 bp : Nat} {s : ByteArray} {j : Nat} {ty : ByteArray} {v : Value} {ps : List (List Int × List Int)} (q : PIn w wr b2 bp s j ty v ps) (p : List Int × List Int) (x y : ByteArray) (hx : x = strOfNums p.1) (hy : y = strOfNums p.2) (hn : ps.length < 1099511627776) :
    ∃ a l c w', (Builtin.append_ #[23, 23] 23 #[v, .slice (some ⟨wr.heap.size, 0, none⟩) 1 1]).run Try.prog (wr.alloc (.cells #[.string x, .string y] 47)) = .ok (.slice a l c) w' ∧
      BlkAt w' b2 #[.string ty, v] ∧ PIn w (w'.setCell ⟨b2, 1, none⟩ (.slice a l c)) b2 bp s j ty (.slice a l c) (ps ++ [p]) := by
  obtain ⟨v', w', h1, h2, h3⟩ := app_par wr (bp + 1) v ps.length _ q.own x y hn q.sc.lt
  obtain ⟨a, l, c, rfl⟩ := own_slice h2
  have hlt := q.lt
  have ho := q.out.below h3 (by omega)
  have hs := q.sc.below h3 (by omega)
  have hbl := q.bl.trans (h3.mono (by omega))
  refine ⟨a, l, c, w', h1, ho, ⟨?_, ho.set 1 _, ?_, hbl.setCell (p := ⟨b2, 1, none⟩) (Nat.le_refl _) _, hlt⟩⟩
  · obtain ⟨T, hs⟩ := hs
    exact ⟨T, by rw [heap_setCell_other w' ⟨b2, 1, none⟩ bp _ (by show bp ≠ b2; omega), hs]⟩
  · rw [parCells_snoc, ← hx, ← hy]
    simp only [List.length_append, List.length_singleton]
    exact far_row h2 (by omega) (gr_set (gr_refl w' (some b2)) 1 _)
theorem PIn.setTy {w wr : World} {b2 bp : Nat} {s : ByteArray} {j : Nat} {ty : ByteArray} {v : Value} {ps : List (List Int × List Int)} (q : PIn w wr b2 bp s j ty v ps) (ty' : ByteArray) : PIn w (wr.setCell ⟨b2, 0, none⟩ (.string ty')) b2 bp s j ty' v ps := by
  have hlt := q.lt
  obtain ⟨T, hs⟩ := q.sc
  exact ⟨⟨T, by rw [heap_setCell_other wr ⟨b2, 0, none⟩ bp _ (by show bp ≠ b2; omega), hs]⟩, q.out.set 0 _, far_row q.own (by omega) (gr_set (gr_refl wr (some b2)) 0 _), q.bl.setCell (p := ⟨b2, 0, none⟩) (Nat.le_refl _) _, hlt⟩
theorem size_strOfNums (l : List Int) : (strOfNums l).size = l.length := by simp [strOfNums, ByteArray.size]
theorem size_takeWhile (P : Int → Bool) (s : ByteArray) (k : Nat) : (((nums s).drop k).takeWhile P).length ≤ s.size := by
  have h1 := takeWhile_len_le P ((nums s).drop k)
  rw [List.length_drop, nums_length] at h1
  omega
theorem step_append_run {P : Program} {ops : Array Oper} {o : Oper} {a : Act} {w : World} {K : Act → World → Prop} {Q : Exit → Act → World → Prop} {E : Prop} (hgd : o.guard = none) (s x : Operand) (t tx : TypeId)
    (ho : o.op = .call { callee := .builtin .append, args := #[s, x], argTypes := #[t, tx] }) (v xv : Value) (hs : a.eval s = v) (hx : a.eval x = xv) (v' : Value) (w' : World)
    (hr : (Builtin.append_ #[t, tx] o.type #[v, xv]).run P w = .ok v' w') (hK : K (a.put o.dst v') w') :
    if Region.wanted o (yielded ops a.tmps) = true then Oper.wp P o a w K Q else E := by
  have hw : Region.wanted o (yielded ops a.tmps) = true := by simp [Region.wanted, hgd]
  rw [if_pos hw]
  unfold Oper.wp execOp
  simp only [ho, resolve, invoke, builtin, Sem.run_bind, Sem.run_pure, Result.andThen_ok, List.map_toArray, List.map_cons, List.map_nil, hs, hx, hr]
  exact hK
/-- the type's text is put together of its two halves. -/
theorem nums_append (x y : ByteArray) : nums (x ++ y) = nums x ++ nums y := by
  unfold nums
  rw [ByteArray.data_append, Array.toList_append, List.map_append]
theorem isBs_takeWhile (P : Int → Bool) (s : ByteArray) (k : Nat) : isBs (((nums s).drop k).takeWhile P) := fun x hx => nums_isBs s x (List.mem_of_mem_drop (List.takeWhile_prefix P |>.subset hx))
theorem isEmpty_strOfNums {l : List Int} (h : l ≠ []) : (strOfNums l).toList.isEmpty = false := isEmpty_no _ (strOfNums_ne l h)
/-- the name is lowered, and what is then appended. -/
theorem low_appW {w wr : World} {b2 bp : Nat} {s : ByteArray} {j : Nat} {ty : ByteArray} {va : Option Addr} {vl vc : Nat} {ps : List (List Int × List Int)} (q : PIn w wr b2 bp s j ty (.slice va vl vc) ps) (tn : ByteArray) (T : List Int) (hT : nums tn = T) (hz : tn.size ≤ 1099511627776)
    (x : ByteArray) (hx : strOfNums (lowL T) = x) (v2 : List Int) (t : ByteArray) (ht : t = strOfNums v2) (hn : ps.length < 1099511627776) :
    Calls Try.prog 15 #[.string tn] wr.drew fun e w6 => e = .returned (.string x) ∧ ∃ a l c w7, (Builtin.append_ #[23, 23] 23 #[.slice va vl vc, .slice (some ⟨w6.heap.size, 0, none⟩) 1 1]).run Try.prog (w6.alloc (.cells #[.string x, .string t] 47)) = .ok (.slice a l c) w7 ∧
      w6.cell? ⟨b2, 1, none⟩ = some (.slice va vl vc) ∧ (w6.alloc (.cells #[.string x, .string t] 47)).cell? ⟨b2, 1, none⟩ = some (.slice va vl vc) ∧ w7.cell? ⟨b2, 1, none⟩ = some (.slice va vl vc) ∧ w7.frozen? ⟨b2, 1, none⟩ = false ∧
      PIn w (w7.setCell ⟨b2, 1, none⟩ (.slice a l c)) b2 bp s j ty (.slice a l c) (ps ++ [(lowL T, v2)]) := by
  have q1 : PIn w wr.drew b2 bp s j ty (.slice va vl vc) ps := q.move q.sc (gr_dr (gr_refl _ _))
  refine (media_Lower tn _ hz).mono ?_
  rw [hT, hx]
  rintro e w6 ⟨rfl, hb⟩
  have q2 := q1.below hb
  obtain ⟨a, l, c, w7, h1, h2, h3⟩ := q2.app (lowL T, v2) x t hx.symm ht hn
  exact ⟨rfl, a, l, c, w7, h1, q2.out.cell 1 rfl, (q2.out.alloc _).cell 1 rfl, h2.cell 1 rfl, h2.free 1, h3⟩
set_option maxRecDepth 100000 in
set_option maxHeartbeats 8000000 in
theorem media_Parse (s : ByteArray) (w : World) (hs : s.size ≤ 100000) :
    Calls Try.prog 8 #[.string s] w fun e w' => MOut w w' (parseN (nums s)) e := by
  have hA0 := spanN_le isBl s 0 (by omega)
  have hA1 := drop_span isBl s 0
  rw [List.drop_zero] at hA1
  rw [Nat.zero_add] at hA0 hA1
  obtain ⟨A, hA⟩ : ∃ A, spanN isBl s 0 = A := ⟨_, rfl⟩
  rw [hA] at hA0 hA1
  have hE0 := spanN_le isTok s A hA0
  have hE1 := drop_span isTok s A
  obtain ⟨E, hE⟩ : ∃ E, A + spanN isTok s A = E := ⟨_, rfl⟩
  rw [hE] at hE0 hE1
  obtain ⟨sl, hsl⟩ : ∃ sl, atB s E 47 = sl := ⟨_, rfl⟩
  have hV0 : (if sl then E + 1 else E) ≤ s.size := by
    rw [← hsl]
    by_cases h : E < s.size
    · split <;> omega
    · rw [atB_end (by omega)]
      simp
      omega
  obtain ⟨V, hV⟩ : ∃ V, (if sl then E + 1 else E) = V := ⟨_, rfl⟩
  rw [hV] at hV0
  have hF0 := spanN_le isTok s V hV0
  have hF1 := drop_span isTok s V
  obtain ⟨F, hF⟩ : ∃ F, V + spanN isTok s V = F := ⟨_, rfl⟩
  rw [hF] at hF0 hF1
  have hG0 := spanN_le isBl s F hF0
  have hG1 := drop_span isBl s F
  obtain ⟨G, hG⟩ : ∃ G, F + spanN isBl s F = G := ⟨_, rfl⟩
  rw [hG] at hG0 hG1
  have hZ1 := size_takeWhile isTok s A
  have hZ2 := size_takeWhile isTok s V
  have hB1 := isBs_takeWhile isTok s A
  have hB2' := isBs_takeWhile isTok s V
  obtain ⟨T1, hT1⟩ : ∃ T1, ((nums s).drop A).takeWhile isTok = T1 := ⟨_, rfl⟩
  obtain ⟨T2, hT2⟩ : ∃ T2, ((nums s).drop V).takeWhile isTok = T2 := ⟨_, rfl⟩
  rw [hT1] at hB1 hZ1
  rw [hT2] at hB2' hZ2
  obtain ⟨R0, hR0⟩ : ∃ R0, parseN (nums s) = R0 := ⟨_, rfl⟩
  have hdrE : sl = true → (nums s).drop E = 47 :: (nums s).drop V := by
    intro h
    rw [h] at hsl
    rw [if_pos h] at hV
    have hlt : E < s.size := by
      rcases Nat.lt_or_ge E s.size with h | h
      · exact h
      · rw [atB_end h] at hsl; cases hsl
    have h1 := atB_lt hlt 47
    rw [hsl] at h1
    have h2 : (s[E].toNat : Int) = 47 := by simpa using h1.symm
    rw [nums_drop s E hlt, h2, hV]
  have HFL : T1 = [] ∨ sl = false ∨ T2 = [] → R0 = none := by
    intro h
    rw [← hR0]
    by_cases h1 : T1 = []
    · exact parseN_no1 (by rw [← hA1, hT1]; exact h1)
    · cases hsl' : sl with
      | false =>
        rw [hsl'] at hsl
        by_cases hlt : E < s.size
        · have h2 := atB_lt hlt 47
          rw [hsl] at h2
          have h3 : (s[E].toNat : Int) ≠ 47 := by simpa using h2.symm
          exact parseN_no3 (by rw [← hA1, ← hE1]; exact nums_drop s E hlt) h3
        · exact parseN_no2 (by rw [← hA1, ← hE1]; exact nums_drop_end s E (by omega))
      | true =>
        have h2 : T2 = [] := by
          rcases h with h | h | h
          · exact absurd h h1
          · rw [hsl'] at h; cases h
          · exact h
        exact parseN_no4 (by rw [← hA1, ← hE1]; exact hdrE hsl') (by rw [hT2]; exact h2)
  have HSU : T1 ≠ [] → sl = true → T2 ≠ [] → R0 = (parW [] ((nums s).drop G)).map fun ps => (lowL (T1 ++ 47 :: T2), ps) := by
    intro h1 h2 h3
    rw [← hR0, parseN_eq (by rw [← hA1, hT1]; exact h1) (by rw [← hA1, ← hE1]; exact hdrE h2) (by rw [hT2]; exact h3), ← hA1, hT1, hT2, ← hF1, ← hG1]
  rw [hR0]
  have HFAIL := Lib.hid HFL
  have HSUCC := Lib.hid HSU
  have HA := Lib.hid hA
  have HE := Lib.hid hE
  have HV := Lib.hid hV
  have HF := Lib.hid hF
  have HG := Lib.hid hG
  have HSL := Lib.hid hsl
  have HT1 := Lib.hid hT1
  have HT2 := Lib.hid hT2
  clear HFL HSU hA hE hV hF hG hsl hT1 hT2 hR0 hdrE hA1 hE1 hF1 hG1
  go_enter Try.func8, Try.ntmps8
  go_wp2_with fail
  obtain ⟨w2, hw2⟩ : ∃ w2, (w.alloc (.cells #[.string ⟨#[]⟩, .slice none 0 0] 25)).alloc (.cells #[.string s, .int .i64 0] 41) = w2 := ⟨_, rfl⟩
  have hsz : w2.heap.size = w.heap.size + 2 := by rw [← hw2]; simp
  have hn1 : BlkAt w2 w.heap.size #[.string ⟨#[]⟩, .slice none 0 0] := by rw [← hw2]; exact (BlkAt.new w _ _).alloc _
  have hsc : ScanAt w2 (w.heap.size + 1) s 0 := by
    rw [← hw2]
    have := BlkAt.new (w.alloc (.cells #[.string ⟨#[]⟩, .slice none 0 0] 25)) #[.string s, .int .i64 0] 41
    rw [show (w.alloc (.cells #[.string ⟨#[]⟩, .slice none 0 0] 25)).heap.size = w.heap.size + 1 by simp] at this
    exact this
  have hbl : Below w.heap.size w w2 := by
    rw [← hw2]
    exact ((Below.refl _ w).alloc (Nat.le_refl _) _).alloc (by simp) _
  rw [hw2]
  clear hw2
  obtain ⟨b2, hb2⟩ : ∃ b2, w.heap.size = b2 := ⟨_, rfl⟩
  obtain ⟨bp, hbp⟩ : ∃ bp, b2 + 1 = bp := ⟨_, rfl⟩
  have HB2 := Lib.hid hb2
  rw [hb2] at hn1 hsc hbl hsz ⊢
  rw [hbp] at hsc ⊢
  obtain ⟨w3, w4, w5, hm1, hm2, hm3, hl1, hl2, hb5⟩ := two_entries w2 (bp + 1) (by omega) (.func (.func 21) #[.pointer (some ⟨bp, 0, none⟩)] #[]) (.func (.func 22) #[.pointer (some ⟨bp, 0, none⟩)] #[])
  have q0 : PIn w w5 b2 bp s 0 ⟨#[]⟩ (.slice none 0 0) [] := ⟨hsc.below hb5 (by omega), hn1.below hb5 (by omega), World.ownsRow_nil _ _ _ _, hbl.trans (hb5.mono (by omega)), by omega⟩
  clear hsc hn1 hbl hb5 hb2 hsz hbp
  rw [hm1]
  simp only [Result.andThen]
  rw [Oper.upon_value]
  go_wp2_with fail
  go_quiet (fail)
  clear hm1 hm2 hm3 hl1 hl2
  have q1 : PIn w (w5.drewN nq) b2 bp s 0 ⟨#[]⟩ (.slice none 0 0) [] := q0.move (q0.sc.drewN nq) (gr_dn (gr_refl _ _) nq)
  generalize w5.drewN nq = w6 at q1 ⊢
  clear q0
  go_wp2_with fail
  refine (scan_blanks bp s 0 _ q1.sc (by omega) (by omega)).mono ?_
  rintro e w7 ⟨rfl, h1, h2⟩
  rw [Nat.zero_add, HA.out] at h1
  have q2 := q1.move h1 h2
  clear q1 h1 h2
  go_wp2_with fail
  refine (scan_token bp s A _ q2.sc hA0 (by omega)).mono ?_
  rw [HT1.out]
  rintro e w8 ⟨rfl, h1, h2⟩
  rw [HE.out] at h1
  have q3 := q2.move h1 h2
  clear q2 h1 h2
  go_wp2_with fail
  refine (scan_is 47 bp s E _ q3.sc hE0 (by omega)).mono ?_
  rw [HSL.out]
  rintro e w9 ⟨rfl, h1, h2⟩
  rw [HV.out] at h1
  have q4 := q3.move h1 h2
  clear q3 h1 h2
  go_wp2_with fail
  refine (scan_token bp s V _ q4.sc hV0 (by omega)).mono ?_
  rw [HT2.out]
  rintro e w10 ⟨rfl, h1, h2⟩
  rw [HF.out] at h1
  have q5 := q4.move h1 h2
  clear q4 h1 h2
  have ho0 := q5.out.cell 0 rfl
  have ho1 := q5.out.cell 1 rfl
  have hf0 := q5.out.free 0
  have hf1 := q5.out.free 1
  have h8 := (q5.out.set 0 (.string ⟨#[]⟩)).set 1 (.slice none 0 0)
  have fin : R0 = none → MOut w ((w10.setCell ⟨b2, 0, none⟩ (.string ⟨#[]⟩)).setCell ⟨b2, 1, none⟩ (.slice none 0 0)) R0 (.returned (.tuple #[.agg #[.string ⟨#[]⟩, .slice none 0 0], .int .i64 70])) := by
    intro h
    rw [h]
    refine MOut.no ?_
    rw [HB2.out]
    exact (q5.bl.setCell (p := ⟨b2, 0, none⟩) (Nat.le_refl _) _).setCell (p := ⟨b2, 1, none⟩) (Nat.le_refl _) _
  have FIN := Lib.hid fin
  have H8 := Lib.hid h8
  clear fin h8
  by_cases c1 : T1 = []
  · have hr := HFAIL.out (.inl c1)
    have HRN := Lib.hid hr
    subst c1
    clear hr
    rw [strOfNums_nil]
    go_wp2
    refine bodyPost_ret (results_cell2 rfl _ _ _ _ _ rfl H8.out Try.underlying25 rfl (by kernel_rfl)) rfl ?_
    exact FIN.out HRN.out
  · have ne1 := isEmpty_strOfNums c1
    obtain ⟨ta, hta⟩ : ∃ ta, strOfNums T1 = ta := ⟨_, rfl⟩
    rw [hta] at ne1 ⊢
    have HTA := Lib.hid hta
    clear hta
    cases hsl : sl with
    | false =>
      have HRN := Lib.hid (HFAIL.out (.inr (.inl hsl)))
      subst hsl
      clear c1
      go_wp2
      refine bodyPost_ret (results_cell2 rfl _ _ _ _ _ rfl H8.out Try.underlying25 rfl (by kernel_rfl)) rfl ?_
      exact FIN.out HRN.out
    | true =>
      by_cases c2 : T2 = []
      · have HRN := Lib.hid (HFAIL.out (.inr (.inr c2)))
        subst hsl
        subst c2
        clear c1
        rw [strOfNums_nil]
        go_wp2
        refine bodyPost_ret (results_cell2 rfl _ _ _ _ _ rfl H8.out Try.underlying25 rfl (by kernel_rfl)) rfl ?_
        exact FIN.out HRN.out
      · have ne2 := isEmpty_strOfNums c2
        obtain ⟨tb, htb⟩ : ∃ tb, strOfNums T2 = tb := ⟨_, rfl⟩
        rw [htb] at ne2 ⊢
        have HTB := Lib.hid htb
        have hsu := HSUCC.out c1 hsl c2
        obtain ⟨R, hR⟩ : ∃ R, parW [] ((nums s).drop G) = R := ⟨_, rfl⟩
        obtain ⟨L, hL⟩ : ∃ L, lowL (T1 ++ 47 :: T2) = L := ⟨_, rfl⟩
        rw [hR, hL] at hsu
        have HRR := Lib.hid hR
        have HLL := Lib.hid hL
        have HSX := Lib.hid hsu
        have hR0n : R = none → R0 = none := by
          intro h
          rw [hsu, h]
          rfl
        have HRN := Lib.hid hR0n
        subst hsl
        clear c1 c2 htb hR hL hsu HSUCC HFAIL FIN H8 hR0n
        have hza : ta.size ≤ 100000 := by rw [← HTA.out, size_strOfNums]; omega
        have hzb : tb.size ≤ 100000 := by rw [← HTB.out, size_strOfNums]; omega
        have hza' : ¬ 9223372036854775807 < ta.size + 1 := by omega
        have hzb' : ¬ 9223372036854775807 < ta.size + 1 + tb.size := by omega
        have hnm : nums (ta ++ ⟨#[47]⟩ ++ tb) = T1 ++ 47 :: T2 := by
          rw [nums_append, nums_append, ← HTA.out, ← HTB.out, nums_strOfNums T1 hB1, nums_strOfNums T2 hB2', List.append_assoc]
          rfl
        have hzs : (ta ++ ⟨#[47]⟩ ++ tb).size ≤ 1099511627776 := by
          rw [nums_size, hnm, List.length_append, List.length_cons]
          omega
        obtain ⟨X, hX⟩ : ∃ X, ta ++ ⟨#[47]⟩ ++ tb = X := ⟨_, rfl⟩
        obtain ⟨ty, hty⟩ : ∃ ty, strOfNums L = ty := ⟨_, rfl⟩
        rw [hX] at hnm hzs
        have HLW : ∀ w, Calls Try.prog 15 #[.string X] w fun e w' => e = .returned (.string ty) ∧ Below w.heap.size w w' := by
          intro w
          have := media_Lower X w hzs
          rw [hnm, HLL.out, hty] at this
          exact this
        have HTY := Lib.hid hty
        clear hnm hzs hty
        go_wp2_with fail
        refine (HLW _).mono ?_
        rintro e w11 ⟨rfl, hb11⟩
        have q6 := q5.below hb11
        have q7 := q6.setTy ty
        clear hb11 q5 ho0 ho1 hf0 hf1 hza hzb hza' hzb' HTA HTB hB1 hB2' HLW hX
        have ho0 := q6.out.cell 0 rfl
        have hf0 := q6.out.free 0
        go_wp2_with fail
        clear ho0 hf0 q6
        generalize w11.setCell ⟨b2, 0, none⟩ (.string ty) = w12 at q7 ⊢
        refine (scan_blanks bp s F _ q7.sc hF0 (by omega)).mono ?_
        rintro e w13 ⟨rfl, h1, h2⟩
        rw [HG.out] at h1
        have q8 := q7.move h1 h2
        clear q7 h1 h2 ne1 ne2
        go_wp2_with fail
        go_loopw [] (fun wr => ∃ (j : Nat) (ps : List (List Int × List Int)) (v : Value), j ≤ s.size ∧ ps.length ≤ j ∧ parW ps ((nums s).drop j) = R ∧ PIn w wr b2 bp s j ty v ps) (fun wr => s.size - placeOf wr bp)
        case atStart => exact ⟨G, [], _, hG0, by simp, HRR.out, q8⟩
        case round =>
          obtain ⟨j, ps, v, hj, hpl, hpw, q⟩ := hrel
          obtain ⟨va, vl, vc, rfl⟩ := own_slice q.own
          have hplace := placeOf_at q.sc
          have hp0 := q.sc.place
          have FIN := fun (wx : World) (jx : Nat) (qx : PIn w wx b2 bp s jx ty (.slice va vl vc) ps) (hR0 : R = none) => show BlkAt ((wx.setCell ⟨b2, 0, none⟩ (.string ⟨#[]⟩)).setCell ⟨b2, 1, none⟩ (.slice none 0 0)) b2 #[.string ⟨#[]⟩, .slice none 0 0] ∧ MOut w ((wx.setCell ⟨b2, 0, none⟩ (.string ⟨#[]⟩)).setCell ⟨b2, 1, none⟩ (.slice none 0 0)) R0 (.returned (.tuple #[.agg #[.string ⟨#[]⟩, .slice none 0 0], .int .i64 70])) from
            ⟨(qx.out.set 0 _).set 1 _, by rw [HRN.out hR0]; exact MOut.no (by rw [HB2.out]; exact (qx.bl.setCell (p := ⟨b2, 0, none⟩) (Nat.le_refl _) _).setCell (p := ⟨b2, 1, none⟩) (Nat.le_refl _) _)⟩
          have FIN := Lib.hid FIN
          by_cases hlt2 : j < s.size
          · have hl2 := decide_eq_true (show (j : Int) < (s.size : Int) by omega)
            have hdr := nums_drop s j hlt2
            have h1 := atB_lt hlt2 59
            obtain ⟨c, hc⟩ : ∃ c, (s[j].toNat : Int) = c := ⟨_, rfl⟩
            rw [hc] at h1 hdr
            rw [hdr] at hpw
            clear hdr hc
            cases h59 : atB s j 59 with
            | false =>
              rw [h59] at h1
              have h2 : c ≠ 59 := by simpa using h1.symm
              rw [parW_no h2] at hpw
              have HPW := Lib.hid hpw
              have H59 := Lib.hid h59
              clear h1 h2 hpw h59
              go_wp2_with fail
              refine (scan_is 59 bp s j _ q.sc hj (by omega)).mono ?_
              rw [H59.out]
              rintro e wx ⟨rfl, h3, h4⟩
              have q2 := q.move h3 h4
              clear h3 h4
              have ho0 := q2.out.cell 0 rfl
              have ho1 := q2.out.cell 1 rfl
              have hf0 := q2.out.free 0
              have hf1 := q2.out.free 1
              obtain ⟨h8, h9⟩ := FIN.out _ _ q2 HPW.out.symm
              have H8 := Lib.hid h8
              have H9 := Lib.hid h9
              clear h8 h9
              go_wp2
              refine bodyPost_ret (results_cell2 rfl _ _ _ _ _ rfl H8.out Try.underlying25 rfl (by kernel_rfl)) rfl ?_
              exact H9.out
            | true =>
              rw [h59] at h1
              have h2 : c = 59 := by simpa using h1.symm
              rw [h2] at hpw
              have H59 := Lib.hid h59
              clear h1 h2 h59
              have hH0 := spanN_le isBl s (j + 1) hlt2
              have hH1 : j + 1 ≤ j + 1 + spanN isBl s (j + 1) := Nat.le_add_right _ _
              have hH2 := drop_span isBl s (j + 1)
              obtain ⟨H, hH⟩ : ∃ H, j + 1 + spanN isBl s (j + 1) = H := ⟨_, rfl⟩
              rw [hH] at hH0 hH1 hH2
              have HH := Lib.hid hH
              clear hH
              by_cases hlt3 : H < s.size
              · have hdr3 := nums_drop s H hlt3
                obtain ⟨d, hd⟩ : ∃ d, s[H].toNat = d := ⟨_, rfl⟩
                have hidx3 := index_str s H hlt3 (d : Int) H (by rw [hd]) rfl
                rw [hdr3, hd] at hH2
                have hne : ((H : Int) == (s.size : Int)) = false := by simp; omega
                by_cases hd59 : (d : Int) = 59
                · have q5' : ((d : Int) == 59) = true := by simp [hd59]
                  have hsp : H + spanN isBl s H = H := by
                    rw [spanN_no hlt3 (by rw [hd, hd59]; rfl)]
                    omega
                  rw [hd59] at hH2
                  rw [parW_semi ps _ _ hH2.symm, ← hd59, ← hd, ← hdr3] at hpw
                  have HPW := Lib.hid hpw
                  have HSP := Lib.hid hsp
                  clear hd59 hd hpw hH2 hdr3 hsp
                  go_wp2_with fail
                  refine (scan_is 59 bp s j _ q.sc hj (by omega)).mono ?_
                  rw [H59.out]
                  rintro e wx ⟨rfl, h3, h4⟩
                  rw [if_pos rfl] at h3
                  have q2 := q.move h3 h4
                  clear h3 h4
                  go_wp2_with fail
                  refine (scan_blanks bp s (j + 1) _ q2.sc hlt2 (by omega)).mono ?_
                  rintro e wy ⟨rfl, h3, h4⟩
                  rw [HH.out] at h3
                  have q3 := q2.move h3 h4
                  clear h3 h4
                  have hp3 := q3.sc.place
                  go_wp2_with fail
                  refine (scan_blanks bp s H _ q3.sc hH0 (by omega)).mono ?_
                  rintro e wz ⟨rfl, h3, h4⟩
                  rw [HSP.out] at h3
                  have q4 := q3.move h3 h4
                  have hpl4 := placeOf_at h3
                  go_wp2_with fail
                  exact ⟨⟨H, ps, _, hH0, by omega, HPW.out, q4⟩, by rw [hpl4, hplace]; omega⟩
                · have q5' : ((d : Int) == 59) = false := by simpa using hd59
                  have hFB : parN ((nums s).drop H) = none → R = none := by
                    intro h
                    rw [hdr3, hd] at h
                    rw [← hpw]
                    exact parW_bad ps _ _ _ hH2.symm hd59 h
                  have hPS : ∀ p u, parN ((nums s).drop H) = some (p, u) → parW (ps ++ [p]) (u.dropWhile isBl) = R ∧ u.length < s.size - H := by
                    intro p u h
                    have hl := parN_len h
                    rw [List.length_drop, nums_length] at hl
                    rw [hdr3, hd] at h
                    rw [← hpw]
                    exact ⟨(parW_par ps _ _ u _ p hH2.symm hd59 h).symm, hl⟩
                  have HFB := Lib.hid hFB
                  have HPS := Lib.hid hPS
                  clear hd59 hd hpw hH2 hdr3 hFB hPS
                  have hE3 := spanN_le isTok s H hH0
                  have hE3a : H ≤ H + spanN isTok s H := Nat.le_add_right _ _
                  have hE3b := drop_span isTok s H
                  have hZ3 := size_takeWhile isTok s H
                  have hB3 := isBs_takeWhile isTok s H
                  obtain ⟨E3, hE3c⟩ : ∃ E3, H + spanN isTok s H = E3 := ⟨_, rfl⟩
                  obtain ⟨T3, hT3⟩ : ∃ T3, ((nums s).drop H).takeWhile isTok = T3 := ⟨_, rfl⟩
                  rw [hE3c] at hE3 hE3a hE3b
                  rw [hT3] at hZ3 hB3
                  have HE3 := Lib.hid hE3c
                  have HT3 := Lib.hid hT3
                  have HE3b := Lib.hid hE3b
                  clear hE3c hT3 hE3b
                  go_wp2_with fail
                  refine (scan_is 59 bp s j _ q.sc hj (by omega)).mono ?_
                  rw [H59.out]
                  rintro e wx ⟨rfl, h3, h4⟩
                  rw [if_pos rfl] at h3
                  have q2 := q.move h3 h4
                  clear h3 h4
                  go_wp2_with fail
                  refine (scan_blanks bp s (j + 1) _ q2.sc hlt2 (by omega)).mono ?_
                  rintro e wy ⟨rfl, h3, h4⟩
                  rw [HH.out] at h3
                  have q3 := q2.move h3 h4
                  clear h3 h4 q2
                  have hp3 := q3.sc.place
                  go_wp2_with fail
                  refine (scan_token bp s H _ q3.sc hH0 (by omega)).mono ?_
                  rw [HT3.out]
                  rintro e wz ⟨rfl, h3, h4⟩
                  rw [HE3.out] at h3
                  have q4 := q3.move h3 h4
                  clear h3 h4 q3 hp3
                  by_cases c3 : T3 = []
                  · have hr := HFB.out (parN_no (by rw [HT3.out]; exact c3))
                    subst c3
                    rw [strOfNums_nil]
                    have ho0 := q4.out.cell 0 rfl
                    have ho1 := q4.out.cell 1 rfl
                    have hf0 := q4.out.free 0
                    have hf1 := q4.out.free 1
                    obtain ⟨h8, h9⟩ := FIN.out _ _ q4 hr
                    have H8 := Lib.hid h8
                    have H9 := Lib.hid h9
                    clear h8 h9 hr
                    go_wp2
                    refine bodyPost_ret (results_cell2 rfl _ _ _ _ _ rfl H8.out Try.underlying25 rfl (by kernel_rfl)) rfl ?_
                    exact H9.out
                  · have ne3 := isEmpty_strOfNums c3
                    obtain ⟨tn, htn⟩ : ∃ tn, strOfNums T3 = tn := ⟨_, rfl⟩
                    rw [htn] at ne3 ⊢
                    have HTN := Lib.hid htn
                    have hnT : ((nums s).drop H).takeWhile isTok ≠ [] := by rw [HT3.out]; exact c3
                    have HNT := Lib.hid hnT
                    clear htn c3 hnT
                    cases h61 : atB s E3 61 with
                    | false =>
                      have hpn : parN ((nums s).drop H) = none := by
                        by_cases hlt4 : E3 < s.size
                        · have h5 := atB_lt hlt4 61
                          rw [h61] at h5
                          have h6 : (s[E3].toNat : Int) ≠ 61 := by simpa using h5.symm
                          exact parN_other (by rw [← HE3b.out]; exact nums_drop s E3 hlt4) h6
                        · exact parN_end (by rw [← HE3b.out]; exact nums_drop_end s E3 (by omega))
                      have hr := HFB.out hpn
                      have HR0 := Lib.hid hr
                      have H61 := Lib.hid h61
                      clear hpn hr h61
                      go_wp2_with fail
                      refine (scan_is 61 bp s E3 _ q4.sc hE3 (by omega)).mono ?_
                      rw [H61.out]
                      rintro e wv ⟨rfl, h3, h4⟩
                      have q6 := q4.move h3 h4
                      clear h3 h4
                      have ho0 := q6.out.cell 0 rfl
                      have ho1 := q6.out.cell 1 rfl
                      have hf0 := q6.out.free 0
                      have hf1 := q6.out.free 1
                      obtain ⟨h8, h9⟩ := FIN.out _ _ q6 HR0.out
                      have H8 := Lib.hid h8
                      have H9 := Lib.hid h9
                      clear h8 h9
                      go_wp2
                      refine bodyPost_ret (results_cell2 rfl _ _ _ _ _ rfl H8.out Try.underlying25 rfl (by kernel_rfl)) rfl ?_
                      exact H9.out
                    | true =>
                      have hlt4 : E3 < s.size := by
                        rcases Nat.lt_or_ge E3 s.size with h | h
                        · exact h
                        · rw [atB_end h] at h61; cases h61
                      have hpe : parN ((nums s).drop H) = (valN ((nums s).drop (E3 + 1))).map fun vu => ((lowL T3, vu.1), vu.2) := by
                        have h5 := atB_lt hlt4 61
                        rw [h61] at h5
                        have h6 : (s[E3].toNat : Int) = 61 := by simpa using h5.symm
                        rw [parN_eq HNT.out (by rw [← HE3b.out, nums_drop s E3 hlt4, h6]), HT3.out]
                      have H61 := Lib.hid h61
                      clear h61
                      go_wp2_with fail
                      refine (scan_is 61 bp s E3 _ q4.sc hE3 (by omega)).mono ?_
                      rw [H61.out]
                      rintro e wv ⟨rfl, h3, h4⟩
                      rw [if_pos rfl] at h3
                      have q6 := q4.move h3 h4
                      clear h3 h4
                      cases hVV : valN ((nums s).drop (E3 + 1)) with
                      | none =>
                        rw [hVV] at hpe
                        have hr := HFB.out hpe
                        have HR0 := Lib.hid hr
                        have HVV := Lib.hid hVV
                        clear hpe hr hVV
                        go_wp2_with fail
                        refine (scan_value bp s (E3 + 1) _ q6.sc hlt4 (by omega)).mono ?_
                        rw [HVV.out]
                        rintro e wu ⟨t, n, rfl, h3, h5, h4, -⟩
                        have q7 := q6.move h3 h4
                        clear h3 h4
                        have ho0 := q7.out.cell 0 rfl
                        have ho1 := q7.out.cell 1 rfl
                        have hf0 := q7.out.free 0
                        have hf1 := q7.out.free 1
                        obtain ⟨h8, h9⟩ := FIN.out _ _ q7 HR0.out
                        have H8 := Lib.hid h8
                        have H9 := Lib.hid h9
                        clear h8 h9
                        go_wp2
                        refine bodyPost_ret (results_cell2 rfl _ _ _ _ _ rfl H8.out Try.underlying25 rfl (by kernel_rfl)) rfl ?_
                        exact H9.out
                      | some vu =>
                        obtain ⟨v2, u⟩ := vu
                        rw [hVV] at hpe
                        obtain ⟨hps1, hps2⟩ := HPS.out _ _ hpe
                        have HPS1 := Lib.hid hps1
                        have HVV := Lib.hid hVV
                        clear hpe hVV hps1
                        go_wp2_with fail
                        refine (scan_value bp s (E3 + 1) _ q6.sc hlt4 (by omega)).mono ?_
                        rw [HVV.out]
                        rintro e wu ⟨t, n, rfl, h3, h5, h4, h6⟩
                        obtain ⟨ht, hu⟩ := h6 v2 u rfl
                        have q7 := q6.move h3 h4
                        have HT := Lib.hid ht
                        have hul : u.length = s.size - n := by rw [hu, List.length_drop, nums_length]
                        have HU := Lib.hid hu
                        clear h3 h4 h6 ht hu q6 q4
                        have hJ0 := spanN_le isBl s n h5
                        have hJ1 : n ≤ n + spanN isBl s n := Nat.le_add_right _ _
                        have hJ2 := drop_span isBl s n
                        obtain ⟨J, hJ⟩ : ∃ J, n + spanN isBl s n = J := ⟨_, rfl⟩
                        rw [hJ] at hJ0 hJ1 hJ2
                        have hpx : parW (ps ++ [(lowL T3, v2)]) ((nums s).drop J) = R := by rw [hJ2, ← HU.out]; exact HPS1.out
                        have HPX := Lib.hid hpx
                        have HJ := Lib.hid hJ
                        have hnt : nums tn = T3 := by rw [← HTN.out]; exact nums_strOfNums T3 hB3
                        have HNTN := Lib.hid hnt
                        have hzt : tn.size ≤ 1099511627776 := by rw [← HTN.out, size_strOfNums]; omega
                        obtain ⟨x, hx⟩ : ∃ x, strOfNums (lowL T3) = x := ⟨_, rfl⟩
                        have HXX := Lib.hid hx
                        have hc0 := q7.out.cell 1 rfl
                        have hc1 : wu.drew.cell? ⟨b2, 1, none⟩ = some (.slice va vl vc) := q7.out.cell 1 rfl
                        clear hJ hJ2 hpx hnt hx FIN hB3
                        go_wp2_with fail
                        go_region_law (first | (refine step_append_run rfl _ _ _ _ rfl _ _ rfl rfl _ _ HA.out ?_) | (go_simp; go_at_call 15; refine (low_appW q7 tn T3 HNTN.out hzt x HXX.out v2 t HT.out (by omega)).mono ?_; rintro e w60 ⟨rfl, na, nl, nc, w70, hr, hc6, hc7, hc8, hf8, q9⟩; have HA := Lib.hid hr; clear hr))
                        all_goals
                          generalize w70.setCell ⟨b2, 1, none⟩ (.slice na nl nc) = w80 at q9 ⊢
                          go_wp2_with fail
                          refine (scan_blanks bp s n _ q9.sc h5 (by omega)).mono ?_
                          rintro e w81 ⟨rfl, h3, h4⟩
                          rw [HJ.out] at h3
                          have q10 := q9.move h3 h4
                          have hpl10 := placeOf_at h3
                          go_wp2_with fail
                          exact ⟨⟨J, ps ++ [(lowL T3, v2)], _, hJ0, by simp; omega, HPX.out, q10⟩, by rw [hpl10, hplace]; omega⟩
              · have hne : ((H : Int) == (s.size : Int)) = true := by simp; omega
                have hdE := nums_drop_end s H (by omega)
                have hsp : H + spanN isBl s H = H := by rw [spanN_end (by omega)]; omega
                rw [hdE] at hH2
                rw [parW_end ps _ hH2.symm] at hpw
                have HPW := Lib.hid (show parW ps ((nums s).drop H) = R by rw [hdE, parW_nil]; exact hpw)
                have HSP := Lib.hid hsp
                clear hH2 hpw hdE hsp
                go_wp2_with fail
                refine (scan_is 59 bp s j _ q.sc hj (by omega)).mono ?_
                rw [H59.out]
                rintro e wx ⟨rfl, h3, h4⟩
                rw [if_pos rfl] at h3
                have q2 := q.move h3 h4
                clear h3 h4
                go_wp2_with fail
                refine (scan_blanks bp s (j + 1) _ q2.sc hlt2 (by omega)).mono ?_
                rintro e wy ⟨rfl, h3, h4⟩
                rw [HH.out] at h3
                have q3 := q2.move h3 h4
                clear h3 h4
                have hp3 := q3.sc.place
                go_wp2_with fail
                refine (scan_blanks bp s H _ q3.sc hH0 (by omega)).mono ?_
                rintro e wz ⟨rfl, h3, h4⟩
                rw [HSP.out] at h3
                have q4 := q3.move h3 h4
                have hpl4 := placeOf_at h3
                go_wp2_with fail
                exact ⟨⟨H, ps, _, hH0, by omega, HPW.out, q4⟩, by rw [hpl4, hplace]; omega⟩
          · have hl2 := decide_eq_false (show ¬ (j : Int) < (s.size : Int) by omega)
            rw [nums_drop_end s j (by omega), parW_nil] at hpw
            have ho0 := q.out.cell 0 rfl
            have ho1 := q.out.cell 1 rfl
            have hf0 := q.out.free 0
            have hf1 := q.out.free 1
            have H8 := Lib.hid ((q.out.set 0 (.string ty)).set 1 (.slice va vl vc))
            have H9 := Lib.hid ((q.bl.setCell (p := ⟨b2, 0, none⟩) (Nat.le_refl _) (.string ty)).setCell (p := ⟨b2, 1, none⟩) (Nat.le_refl _) (.slice va vl vc))
            have hlt := q.lt
            have H11 := Lib.hid (CReads.of_own (far_row q.own (p := b2) (by omega) (gr_set (gr_set (gr_refl wr (some b2)) 0 (.string ty)) 1 (.slice va vl vc))))
            have HSZ := Lib.hid (HSX.out.trans (by rw [← hpw]; rfl : _ = some (L, ps)))
            clear hpw
            go_wp2
            refine bodyPost_ret (results_cell2 rfl _ _ _ _ _ rfl H8.out Try.underlying25 rfl (by kernel_rfl)) rfl ?_
            rw [HSZ.out]
            exact ⟨_, by rw [← HTY.out]; rfl, by rw [HB2.out]; exact H9.out, H11.out⟩
end Go.Proofs.Ytjemlaiciacnpaa
