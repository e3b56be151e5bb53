/-
  Layer 16: the walks of slices.Equal at attributes, of Same.
-/
import Derived.Test.YteefopeclfojiaaEvB
namespace Go.Proofs.Yteefopeclfojiaa
open Go.RowKit
theorem ba_ext {a b : ByteArray} (h : a.toList = b.toList) : a = b := by
  rw [ByteArray.toList_eq, ByteArray.toList_eq] at h
  exact ByteArray.ext (Array.toList_inj.1 h)
theorem toL_self (a : ByteArray) : (a.toList == a.toList) = true := by simp
/-- are two events the same? -/
def sameE (x y : Evt) : Bool := decide (x.k = y.k ∧ x.n = y.n ∧ x.tx = y.tx ∧ x.at_ = y.at_)
theorem sameE_iff {x y : Evt} : sameE x y = true ↔ x = y := by
  unfold sameE
  rw [decide_eq_true_eq]
  obtain ⟨a, b, c, d⟩ := x
  obtain ⟨a', b', c', d'⟩ := y
  simp only [Evt.mk.injEq]
  constructor
  · rintro ⟨h1, h2, h3, h4⟩
    exact ⟨h1, h2, h4, h3⟩
  · rintro ⟨h1, h2, h3, h4⟩
    exact ⟨h1, h2, h4, h3⟩
/-- are two rows of events the same? -/
def sameP : List Evt → List Evt → Bool
  | [], [] => true
  | x :: a, y :: b => sameE x y && sameP a b
  | _, _ => false
theorem sameP_iff : ∀ {a b : List Evt}, sameP a b = true ↔ a = b
  | [], [] => by simp [sameP]
  | [], y :: b => by simp [sameP]
  | x :: a, [] => by simp [sameP]
  | x :: a, y :: b => by rw [sameP, Bool.and_eq_true, sameE_iff, sameP_iff, List.cons.injEq]
theorem sameP_ne {a b : List Evt} (h : ¬ a = b) : sameP a b = false := by
  cases e : sameP a b with
  | false => rfl
  | true => exact absurd (sameP_iff.1 e) h
set_option maxRecDepth 100000 in
set_option maxHeartbeats 4000000 in
theorem attrs_Equal (B : Nat) (l m : List AtT) (v u : Value) (w : World) (hl : CReads B w v l.length (atC l)) (hm : CReads B w u m.length (atC m)) (hB : B ≤ w.heap.size) (hn : l.length ≤ 1000000) :
    Calls Try.prog 69 #[v, u] w fun r w' => r = .returned (.bool (decide (l = m))) ∧ Below w.heap.size w w' := by
  obtain ⟨a, ca, rfl, -⟩ := id hl
  obtain ⟨c, cc, rfl, -⟩ := id hm
  obtain ⟨n, hnn⟩ : ∃ n, l.length = n := ⟨_, rfl⟩
  by_cases hle : l.length = m.length
  · have HN := Lib.hid hnn
    have HM := Lib.hid (hle.symm.trans hnn)
    rw [hnn] at hl hn
    rw [HM.out] at hm
    rw [hnn, HM.out]
    go_enter Try.func69, Try.ntmps69
    go_wp2_with fail
    clear hnn hle
    go_loopw [13] (fun i wr => ∃ k : Nat, i = .int .i64 k ∧ k ≤ n ∧ l.take k = m.take k ∧ Below w.heap.size w wr) (fun i _ => n - (intOf i).toNat)
    case atStart => exact ⟨0, rfl, by omega, rfl, Below.refl _ _⟩
    case round =>
      obtain ⟨k, rfl, hk, hs, hbl⟩ := hrel
      by_cases hlt : k < n
      · obtain ⟨x, hx⟩ : ∃ x, l[k]? = some x := ⟨_, List.getElem?_eq_getElem (by rw [HN.out]; exact hlt)⟩
        obtain ⟨y, hy⟩ : ∃ y, m[k]? = some y := ⟨_, List.getElem?_eq_getElem (by rw [HM.out]; exact hlt)⟩
        obtain ⟨b1, o1, c1, hv1, p0, p1, p2⟩ := hl.attr hbl hB k x hx
        obtain ⟨b2, o2, c2, hv2, q0, q1, q2⟩ := hm.attr hbl hB k y hy
        cases hv1
        cases hv2
        have hd := decide_eq_true (show (k : Int) < (n : Int) by omega)
        have hbd := fun j => below_dn hbl j
        by_cases hxy : x = y
        · subst hxy
          have hs2 : l.take (k + 1) = m.take (k + 1) := by rw [List.take_add_one, List.take_add_one, hs, hx, hy]
          have t1 := toL_self x.1.1
          have t2 := toL_self x.1.2
          have t3 := toL_self x.2
          clear hl hm hx hy hs
          go_wp2_with fail
          go_quiet (fail)
          go_wp2_with fail
          refine ⟨⟨k + 1, by go_num, by omega, hs2, hbd _⟩, ?_⟩
          simp [intOf]
          omega
        · have hdf : ¬ l = m := fun e => by
            rw [e, hy] at hx
            injection hx with h
            exact hxy h.symm
          have HD := Lib.hid (decide_eq_false hdf)
          have hne : (x.1.1.toList == y.1.1.toList) = false ∨ ((x.1.1.toList == y.1.1.toList) = true ∧ (x.1.2.toList == y.1.2.toList) = false) ∨ ((x.1.1.toList == y.1.1.toList) = true ∧ (x.1.2.toList == y.1.2.toList) = true ∧ (x.2.toList == y.2.toList) = false) := by
            by_cases h1 : x.1.1 = y.1.1
            · by_cases h2 : x.1.2 = y.1.2
              · refine .inr (.inr ⟨by rw [h1]; simp, by rw [h2]; simp, toL_ne fun h3 => hxy (Prod.ext (Prod.ext h1 h2) h3)⟩)
              · exact .inr (.inl ⟨by rw [h1]; simp, toL_ne h2⟩)
            · exact .inl (toL_ne h1)
          clear hl hm hx hy hs hdf hxy
          rcases hne with g1 | ⟨g1, g2⟩ | ⟨g1, g2, g3⟩
          all_goals
            go_wp2_with fail
            go_quiet (fail)
            go_wp2_with fail
            go_ret
            exact ⟨ret_bool HD.out.symm, hbd _⟩
      · have hd := decide_eq_false (show ¬ (k : Int) < (n : Int) by omega)
        have hlm : l = m := by
          rw [List.take_of_length_le (by rw [HN.out]; omega), List.take_of_length_le (by rw [HM.out]; omega)] at hs
          exact hs
        have HD := Lib.hid (decide_eq_true hlm)
        clear hl hm hs hlm
        go_wp2_with fail
        go_ret
        exact ⟨ret_bool HD.out.symm, hbl⟩
  · have hdec := decide_eq_false (show ¬ l = m from fun e => hle (by rw [e]))
    rw [hdec]
    have hd : ¬ ((l.length : Int) = (m.length : Int)) := by omega
    clear hl hm hnn hdec
    go_enter Try.func69, Try.ntmps69
    go_wp2_with fail
    go_ret
    exact ⟨rfl, Below.refl _ _⟩
set_option maxRecDepth 100000 in
set_option maxHeartbeats 4000000 in
theorem events_Same1 (B : Nat) (x y : Evt) (av bv : Value) (w : World) (hx : CReads B w av x.at_.length (atC x.at_)) (hy : CReads B w bv y.at_.length (atC y.at_)) (hB : B ≤ w.heap.size) (hn : x.at_.length ≤ 1000000) :
    Calls Try.prog 68 #[evV x av, evV y bv] w fun r w' => r = .returned (.bool (sameE x y)) ∧ Below w.heap.size w w' := by
  obtain ⟨a, ca, rfl, -⟩ := id hx
  obtain ⟨c, cc, rfl, -⟩ := id hy
  obtain ⟨k, ⟨n1, n2⟩, ats, tx⟩ := x
  obtain ⟨k', ⟨n1', n2'⟩, ats', tx'⟩ := y
  simp only at hx hy hn
  unfold evV
  simp only
  have hbA := ((Below.refl w.heap.size w).alloc (Nat.le_refl _) (.cells #[.int .i8 k, .string n1, .string n2, .slice a ats.length ca, .string tx] 30)).alloc (by simp) (.cells #[.int .i8 k', .string n1', .string n2', .slice c ats'.length cc, .string tx'] 30)
  have bX := (BlkAt.new w #[.int .i8 k, .string n1, .string n2, .slice a ats.length ca, .string tx] 30).alloc (.cells #[.int .i8 k', .string n1', .string n2', .slice c ats'.length cc, .string tx'] 30)
  have bY := BlkAt.new (w.alloc (.cells #[.int .i8 k, .string n1, .string n2, .slice a ats.length ca, .string tx] 30)) #[.int .i8 k', .string n1', .string n2', .slice c ats'.length cc, .string tx'] 30
  rw [World.size_alloc] at bY
  have HE := Lib.hid (attrs_Equal B ats ats' _ _ _ (hx.below hbA hB) (hy.below hbA hB) (Nat.le_trans hB hbA.size) hn)
  obtain ⟨w2, hw2⟩ : ∃ z, (w.alloc (.cells #[.int .i8 k, .string n1, .string n2, .slice a ats.length ca, .string tx] 30)).alloc (.cells #[.int .i8 k', .string n1', .string n2', .slice c ats'.length cc, .string tx'] 30) = z := ⟨_, rfl⟩
  rw [hw2] at hbA bX bY HE
  have x0 : _ = some (Value.int .i8 k) := bX.cell 0 rfl
  have x1 : _ = some (Value.string n1) := bX.cell 1 rfl
  have x2 : _ = some (Value.string n2) := bX.cell 2 rfl
  have x3 : _ = some (Value.slice a ats.length ca) := bX.cell 3 rfl
  have x4 : _ = some (Value.string tx) := bX.cell 4 rfl
  have y0 : _ = some (Value.int .i8 k') := bY.cell 0 rfl
  have y1 : _ = some (Value.string n1') := bY.cell 1 rfl
  have y2 : _ = some (Value.string n2') := bY.cell 2 rfl
  have y3 : _ = some (Value.slice c ats'.length cc) := bY.cell 3 rfl
  have y4 : _ = some (Value.string tx') := bY.cell 4 rfl
  clear hx hy bX bY
  have hcs : (k == k') = false ∨ ((k == k') = true ∧ (n1.toList == n1'.toList) = false) ∨ ((k == k') = true ∧ (n1.toList == n1'.toList) = true ∧ (n2.toList == n2'.toList) = false) ∨ ((k == k') = true ∧ (n1.toList == n1'.toList) = true ∧ (n2.toList == n2'.toList) = true ∧ (tx.toList == tx'.toList) = false) ∨ (k = k' ∧ n1 = n1' ∧ n2 = n2' ∧ tx = tx') := by
    by_cases h0 : k = k'
    · by_cases h1 : n1 = n1'
      · by_cases h2 : n2 = n2'
        · by_cases h3 : tx = tx'
          · exact .inr (.inr (.inr (.inr ⟨h0, h1, h2, h3⟩)))
          · exact .inr (.inr (.inr (.inl ⟨by simp [h0], by rw [h1]; simp, by rw [h2]; simp, toL_ne h3⟩)))
        · exact .inr (.inr (.inl ⟨by simp [h0], by rw [h1]; simp, toL_ne h2⟩))
      · exact .inr (.inl ⟨by simp [h0], toL_ne h1⟩)
    · exact .inl (by simpa using h0)
  have hse : sameE ⟨k, (n1, n2), ats, tx⟩ ⟨k', (n1', n2'), ats', tx'⟩ = (k == k' && (n1.toList == n1'.toList) && (n2.toList == n2'.toList) && (tx.toList == tx'.toList) && decide (ats = ats')) := by
    have tl : ∀ a b : ByteArray, (a.toList == b.toList) = decide (a = b) := fun a b => by
      by_cases h : a = b
      · rw [h]; simp
      · rw [toL_ne h, decide_eq_false h]
    unfold sameE
    rw [tl, tl, tl]
    simp only [Prod.mk.injEq]
    by_cases h0 : k = k' <;> by_cases h1 : n1 = n1' <;> by_cases h2 : n2 = n2' <;> by_cases h3 : tx = tx' <;> by_cases h4 : ats = ats' <;> simp [h0, h1, h2, h3, h4]
  rw [hse]
  clear hse
  rcases hcs with g0 | ⟨g0, g1⟩ | ⟨g0, g1, g2⟩ | ⟨g0, g1, g2, g3⟩ | ⟨rfl, rfl, rfl, rfl⟩
  case inr.inr.inr.inr =>
    have t1 := toL_self n1
    have t2 := toL_self n2
    have t3 := toL_self tx
    go_enter Try.func68, Try.ntmps68
    go_wp2_with fail
    refine (HE.out).mono ?_
    rintro r w3 ⟨rfl, hb3⟩
    go_wp2_with fail
    go_ret
    exact ⟨ret_bool (by simp), hbA.trans (hb3.mono hbA.size)⟩
  all_goals
    clear HE
    go_enter Try.func68, Try.ntmps68
    go_wp2_with fail
    go_ret
    exact ⟨ret_bool (by simp [*]), hbA⟩
set_option maxRecDepth 100000 in
set_option maxHeartbeats 4000000 in
theorem events_EqualFunc (B : Nat) (es ms : List Evt) (v u : Value) (w : World) (hr : EvsR B w v es) (hm : EvsR B w u ms) (hB : B ≤ w.heap.size) (hn : es.length ≤ 1000000) (hz : ∀ e ∈ es, e.at_.length ≤ 1000000) :
    Calls Try.prog 67 #[v, u, .func (.func 68) #[] #[]] w fun r w' => r = .returned (.bool (sameP es ms)) ∧ Below w.heap.size w w' := by
  obtain ⟨avs, ⟨a, ca, rfl, -⟩, -⟩ := id hr
  obtain ⟨bvs, ⟨c, cc, rfl, -⟩, -⟩ := id hm
  obtain ⟨n, hnn⟩ : ∃ n, es.length = n := ⟨_, rfl⟩
  by_cases hle : es.length = ms.length
  · have HN := Lib.hid hnn
    have HM := Lib.hid (hle.symm.trans hnn)
    rw [hnn] at hr hn
    rw [HM.out] at hm
    rw [hnn, HM.out]
    go_enter Try.func67, Try.ntmps67
    go_wp2_with fail
    clear hnn hle
    go_loopw [17] (fun i wr => ∃ k : Nat, i = .int .i64 k ∧ k ≤ n ∧ es.take k = ms.take k ∧ Below w.heap.size w wr) (fun i _ => n - (intOf i).toNat)
    case atStart => exact ⟨0, rfl, by omega, rfl, Below.refl _ _⟩
    case round =>
      obtain ⟨k, rfl, hk, hs, hbl⟩ := hrel
      by_cases hlt : k < n
      · obtain ⟨x, hx⟩ : ∃ x, es[k]? = some x := ⟨_, List.getElem?_eq_getElem (by rw [HN.out]; exact hlt)⟩
        obtain ⟨y, hy⟩ : ∃ y, ms[k]? = some y := ⟨_, List.getElem?_eq_getElem (by rw [HM.out]; exact hlt)⟩
        obtain ⟨b1, o1, c1, av, hv1, -, p0, p1, p2, p3, p4, hav⟩ := hr.get hbl hB k x hx
        rw [HN.out] at hv1
        cases hv1
        have hxz := hz x (List.mem_of_getElem? hx)
        have hd := decide_eq_true (show (k : Int) < (n : Int) by omega)
        have hbs := hbl.size
        obtain ⟨aa, ac, rfl, -⟩ := id hav
        obtain ⟨b2, o2, c2, bv, hv2, -, q0, q1, q2, q3, q4, hbv⟩ := hm.get (hbl.alloc hbs (.cells #[.int .i8 x.k, .string x.n.1, .string x.n.2, .slice aa x.at_.length ac, .string x.tx] 30)) hB k y hy
        rw [HM.out] at hv2
        cases hv2
        obtain ⟨ba, bc, rfl, -⟩ := id hbv
        have hb1 := (Below.refl wr.heap.size wr).alloc (Nat.le_refl _) (.cells #[.int .i8 x.k, .string x.n.1, .string x.n.2, .slice aa x.at_.length ac, .string x.tx] 30)
        have hb2 := hb1.alloc hb1.size (.cells #[.int .i8 y.k, .string y.n.1, .string y.n.2, .slice ba y.at_.length bc, .string y.tx] 30)
        have bX := (BlkAt.new wr #[.int .i8 x.k, .string x.n.1, .string x.n.2, .slice aa x.at_.length ac, .string x.tx] 30).alloc (.cells #[.int .i8 y.k, .string y.n.1, .string y.n.2, .slice ba y.at_.length bc, .string y.tx] 30)
        have bY := BlkAt.new (wr.alloc (.cells #[.int .i8 x.k, .string x.n.1, .string x.n.2, .slice aa x.at_.length ac, .string x.tx] 30)) #[.int .i8 y.k, .string y.n.1, .string y.n.2, .slice ba y.at_.length bc, .string y.tx] 30
        rw [World.size_alloc] at bY
        have hb12 := (Below.refl (wr.alloc (.cells #[.int .i8 x.k, .string x.n.1, .string x.n.2, .slice aa x.at_.length ac, .string x.tx] 30)).heap.size (wr.alloc (.cells #[.int .i8 x.k, .string x.n.1, .string x.n.2, .slice aa x.at_.length ac, .string x.tx] 30))).alloc (Nat.le_refl _) (.cells #[.int .i8 y.k, .string y.n.1, .string y.n.2, .slice ba y.at_.length bc, .string y.tx] 30)
        have x0 : _ = some (Value.int .i8 x.k) := bX.cell 0 rfl
        have x1 : _ = some (Value.string x.n.1) := bX.cell 1 rfl
        have x2 : _ = some (Value.string x.n.2) := bX.cell 2 rfl
        have x3 : _ = some (Value.slice aa x.at_.length ac) := bX.cell 3 rfl
        have x4 : _ = some (Value.string x.tx) := bX.cell 4 rfl
        have y0 : _ = some (Value.int .i8 y.k) := bY.cell 0 rfl
        have y1 : _ = some (Value.string y.n.1) := bY.cell 1 rfl
        have y2 : _ = some (Value.string y.n.2) := bY.cell 2 rfl
        have y3 : _ = some (Value.slice ba y.at_.length bc) := bY.cell 3 rfl
        have y4 : _ = some (Value.string y.tx) := bY.cell 4 rfl
        have HE := Lib.hid (events_Same1 B x y _ _ _ (hav.below hb2 (Nat.le_trans hB hbs)) (hbv.below hb12 (Nat.le_trans hB (Nat.le_trans hbs hb1.size))) (Nat.le_trans hB (Nat.le_trans hbs hb2.size)) hxz)
        unfold evV at HE
        have hbw := hbl.trans (hb2.mono hbs)
        by_cases hxy : x = y
        · have hs2 : es.take (k + 1) = ms.take (k + 1) := by rw [List.take_add_one, List.take_add_one, hs, hx, hy, hxy]
          rw [sameE_iff.2 hxy] at HE
          clear hr hm hx hy hs hz bX bY hb12 hb1 hav hbv hxy
          go_wp2_with fail
          refine (HE.out).mono ?_
          rintro r w3 ⟨rfl, hb3⟩
          go_wp2_with fail
          refine ⟨⟨k + 1, by go_num, by omega, hs2, hbw.trans (hb3.mono hbw.size)⟩, ?_⟩
          simp [intOf]
          omega
        · have hdf : ¬ es = ms := fun e => by
            rw [e, hy] at hx
            injection hx with h
            exact hxy h.symm
          have HD := Lib.hid (sameP_ne hdf)
          have hse : sameE x y = false := by
            cases h : sameE x y with
            | false => rfl
            | true => exact absurd (sameE_iff.1 h) hxy
          rw [hse] at HE
          clear hr hm hx hy hs hz bX bY hb12 hb1 hav hbv hxy hse hdf
          go_wp2_with fail
          refine (HE.out).mono ?_
          rintro r w3 ⟨rfl, hb3⟩
          go_wp2_with fail
          go_ret
          exact ⟨ret_bool HD.out.symm, hbw.trans (hb3.mono hbw.size)⟩
      · have hd := decide_eq_false (show ¬ (k : Int) < (n : Int) by omega)
        have hlm : es = ms := by
          rw [List.take_of_length_le (by rw [HN.out]; omega), List.take_of_length_le (by rw [HM.out]; omega)] at hs
          exact hs
        have HD := Lib.hid (sameP_iff.2 hlm)
        clear hr hm hs hlm
        go_wp2_with fail
        go_ret
        exact ⟨ret_bool HD.out.symm, hbl⟩
  · have HD := Lib.hid (sameP_ne (show ¬ es = ms from fun e => hle (by rw [e])))
    have hd : ¬ ((es.length : Int) = (ms.length : Int)) := by omega
    clear hr hm hnn
    go_enter Try.func67, Try.ntmps67
    go_wp2_with fail
    go_ret
    exact ⟨ret_bool HD.out.symm, Below.refl _ _⟩
theorem events_Same (B : Nat) (es ms : List Evt) (v u : Value) (w : World) (hr : EvsR B w v es) (hm : EvsR B w u ms) (hB : B ≤ w.heap.size) (hn : es.length ≤ 1000000) (hz : ∀ e ∈ es, e.at_.length ≤ 1000000) :
    Calls Try.prog 26 #[v, u] w fun r w' => r = .returned (.bool (sameP es ms)) ∧ Below w.heap.size w w' := by
  have HE := Lib.hid (events_EqualFunc B es ms v u w hr hm hB hn hz)
  obtain ⟨avs, ⟨a, ca, rfl, -⟩, -⟩ := id hr
  obtain ⟨bvs, ⟨c, cc, rfl, -⟩, -⟩ := id hm
  clear hr hm
  go_enter Try.func26, Try.ntmps26
  go_wp2_with fail
  refine (HE.out).mono ?_
  rintro r w1 ⟨rfl, hb⟩
  go_wp2_with fail
  go_ret
  exact ⟨rfl, hb⟩
end Go.Proofs.Yteefopeclfojiaa
