/-
  Layer 16: rows of names; the walks of the document's Whole and Depth.
-/
import Derived.Test.YteefopeclfojiaaEvZ
import Derived.Test.YteefopeclfojiaaEvN
import Derived.Test.YteefopeclfojiaaSl
namespace Go.Proofs.Yteefopeclfojiaa
open Go.RowKit
/-- names as cells. -/
def nmC (l : List (ByteArray × ByteArray)) : List Value := l.flatMap fun n => [.string n.1, .string n.2]
theorem nmC_snoc (l : List (ByteArray × ByteArray)) (n : ByteArray × ByteArray) : nmC (l ++ [n]) = nmC l ++ [.string n.1, .string n.2] := by unfold nmC; rw [List.flatMap_append]; simp
theorem nmC_len (l : List (ByteArray × ByteArray)) : (nmC l).length = l.length * 2 := by
  induction l with
  | nil => rfl
  | cons n r ih =>
    have h1 : (nmC (n :: r)).length = 2 + (nmC r).length := by
      show ([Value.string n.1, .string n.2] ++ nmC r).length = _
      rw [List.length_append]
      rfl
    rw [h1, ih, List.length_cons]
    omega
theorem nmC_at : ∀ (l : List (ByteArray × ByteArray)) (k : Nat) (n : ByteArray × ByteArray), l[k]? = some n → (nmC l)[k * 2]? = some (.string n.1) ∧ (nmC l)[k * 2 + 1]? = some (.string n.2)
  | [], k, n, h => by simp at h
  | x :: r, 0, n, h => by simp at h; subst h; exact ⟨rfl, rfl⟩
  | x :: r, k + 1, n, h => by
    have ih := nmC_at r k n (by simpa using h)
    show ([Value.string x.1, .string x.2] ++ nmC r)[(k + 1) * 2]? = _ ∧ ([Value.string x.1, .string x.2] ++ nmC r)[(k + 1) * 2 + 1]? = _
    rw [show (k + 1) * 2 = k * 2 + 2 by omega, show k * 2 + 2 + 1 = (k * 2 + 1) + 2 by omega]
    exact ih
theorem nmC_take (l : List (ByteArray × ByteArray)) (n : ByteArray × ByteArray) : (nmC (l ++ [n])).take (l.length * 2) = nmC l := by
  rw [nmC_snoc, ← nmC_len, List.take_left']
  rfl
/-- a row of the call's own, cut shorter. -/
theorem own_cut {w : World} {base : Nat} {e : TypeId} {size : Nat} {g n cap : Nat} {xs : List Value} (h : w.ownsRow base e size (.slice (some ⟨g, 0, none⟩) n cap) n xs) (m : Nat) (hm : m ≤ n) : w.ownsRow base e size (.slice (some ⟨g, 0, none⟩) m cap) m (xs.take (m * size)) := by
  obtain ⟨h1, h2⟩ := h
  have hms : m * size ≤ n * size := Nat.mul_le_mul hm (Nat.le_refl _)
  refine ⟨by rw [List.length_take, h1]; omega, ?_⟩
  rcases h2 with ⟨h2, -⟩ | ⟨g', cap', cur, hv, hb, hg, hn, hc, hs, ht⟩
  · cases h2
  · cases hv
    exact .inr ⟨g, cap, cur, rfl, hb, hg, by omega, hc, hs, by rw [← ht, List.take_take, Nat.min_eq_left hms]⟩
theorem infoNm : (Try.prog.info? 24).map (fun i => (i.zero, i.size, i.bytes)) = some (some (.agg #[.string ⟨#[]⟩, .string ⟨#[]⟩]), 2, 32) := by kernel_rfl
/-- 'append(ns, n)' of one name. -/
theorem app_nm (wr : World) (base : Nat) (v : Value) (n : Nat) (xs : List Value) (hown : wr.ownsRow base 24 2 v n xs) (x y : ByteArray) (hn : n < 1099511627776) (hbase : base ≤ wr.heap.size) :
    ∃ v' w', (Builtin.append_ #[38, 38] 38 #[v, .slice (some ⟨wr.heap.size, 0, none⟩) 1 1]).run Try.prog (wr.alloc (.cells #[.string x, .string y] 24)) = .ok v' w' ∧
      w'.ownsRow base 24 2 v' (n + 1) (xs ++ [.string x, .string y]) ∧ Below base wr w' := by
  obtain ⟨i0, hi, hz0, hz1, hz2⟩ := info_parts infoNm
  obtain ⟨v', w', h1, h2, h3, h4⟩ := run_append_own (P := Try.prog) (wr.alloc (.cells #[.string x, .string y] 24)) base 38 38 24 i0 (.agg #[.string ⟨#[]⟩, .string ⟨#[]⟩]) 2 32 Try.underlying38 hi hz0 hz1 hz2 rfl (by decide) v n _ (hown.alloc _) ⟨wr.heap.size, 0, none⟩ 1 1 [.string x, .string y] rfl
    (fun j u hj => by
      match j, hj with
      | 0, hj => simp at hj; subst hj; simp [Addr.add, World.cell?_alloc_mark]
      | 1, hj => simp at hj; subst hj; simp [Addr.add, World.cell?_alloc_mark])
    (fun u hu => by simp at hu; rcases hu with rfl | rfl <;> rfl) (by unfold maxLen; omega) (by omega) (by simp; omega)
  exact ⟨v', w', h1, by simpa using h2, ((Below.refl base wr).alloc hbase _).trans (ownBelow (hown.alloc _) h3 (Nat.le_refl _) (by simp; omega))⟩
/-- the names of the elements at these places. -/
def nmAt (es : List Evt) (os : List Nat) : List (ByteArray × ByteArray) := os.map fun p => ((es[p]?).map Evt.n).getD (⟨#[]⟩, ⟨#[]⟩)
theorem nmAt_snoc (es : List Evt) (os : List Nat) (p : Nat) (x : Evt) (h : es[p]? = some x) : nmAt es (os ++ [p]) = nmAt es os ++ [x.n] := by unfold nmAt; rw [List.map_append, List.map_cons, h]; rfl
theorem nmAt_len (es : List Evt) (os : List Nat) : (nmAt es os).length = os.length := by unfold nmAt; rw [List.length_map]
theorem gstep_no {es : List Evt} {i : Nat} {x : Evt} {op : List Int} {ends : List (Int × Value)} {deep : Nat} (h : ∀ g2, ¬ StepC es i x op ends deep g2) : gstep es i x ⟨op, ends, deep⟩ = none := by
  cases hg : gstep es i x ⟨op, ends, deep⟩ with
  | none => rfl
  | some g2 => exact absurd (gstep_iff.1 hg) (h g2)
/-- what lasts within the loop of the document's Whole. -/
structure RwI (es : List Evt) (R : Option Gr) (w : World) (j : Nat) (vs : Value) (g : Gr) (os : List Nat) (wr : World) : Prop where
  run : R = (grun es j (es.drop j) g).bind (gfin es)
  op : g.op = cI os
  lt : ∀ o ∈ os, o < j
  row : wr.ownsRow w.heap.size 24 2 vs os.length (nmC (nmAt es os))
  bl : Below w.heap.size w wr
  len : os.length ≤ j
set_option maxRecDepth 100000 in
set_option maxHeartbeats 8000000 in
theorem ref16_Whole (B : Nat) (es : List Evt) (v : Value) (w : World) (hr : EvsR B w v es) (hB : B ≤ w.heap.size) (hn : es.length ≤ 1000000) (hz : ∀ e ∈ es, e.at_.length ≤ 140737488351232) :
    Calls Try.prog 24 #[v] w fun r w' => r = .returned (.bool (growP es).isSome) ∧ Below w.heap.size w w' := by
  have hr0 := hr
  obtain ⟨avs, ⟨a, cap, rfl, -⟩, -⟩ := hr0
  obtain ⟨n, hnn⟩ : ∃ n, es.length = n := ⟨_, rfl⟩
  have HN := Lib.hid hnn
  rw [hnn] at hr hn ⊢
  clear hnn
  obtain ⟨R, hR⟩ : ∃ R, growP es = R := ⟨_, rfl⟩
  rw [hR]
  have I0 : RwI es R w 0 (.slice none 0 0) ⟨[], [], 0⟩ [] w := ⟨hR.symm, rfl, fun o h => (by cases h), World.ownsRow_nil _ _ _ _, Below.refl _ _, Nat.le_refl _⟩
  clear hR
  go_enter Try.func24, Try.ntmps24
  go_wp2_with fail
  go_loopw [3, 4] (fun vs i wr => ∃ (j : Nat) (g : Gr) (os : List Nat), i = .int .i64 j ∧ j ≤ n ∧ RwI es R w j vs g os wr) (fun _ i _ => n - (intOf i).toNat)
  case atStart => exact ⟨0, _, [], rfl, by omega, I0⟩
  case round =>
    clear I0
    obtain ⟨j, ⟨op, ends, deep⟩, os, rfl, hj, I⟩ := hrel
    obtain ⟨hrun, hop, holt, hrow, hbl, hol⟩ := I
    simp only at hop
    subst hop
    obtain ⟨va, vl, vc, hvs⟩ := own_slice hrow
    have hvl : vl = os.length := by
      rcases hrow.2 with ⟨h1, h2⟩ | ⟨g', cap', cur, h1, -⟩
      · rw [hvs] at h1
        injection h1 with _ h3
        omega
      · rw [hvs] at h1
        injection h1
    subst hvl
    subst hvs
    by_cases hlt : j < n
    · have hd := decide_eq_true (show (j : Int) < (n : Int) by omega)
      obtain ⟨x, hx⟩ : ∃ x, es[j]? = some x := ⟨_, List.getElem?_eq_getElem (by rw [HN.out]; exact hlt)⟩
      have hdr : es.drop j = x :: es.drop (j + 1) := by
        obtain ⟨h1, h2⟩ := List.getElem?_eq_some_iff.1 hx
        rw [← h2, List.drop_eq_getElem_cons h1]
      have hs0 : R = ((gstep es j x ⟨cI os, ends, deep⟩).bind (grun es (j + 1) (es.drop (j + 1)))).bind (gfin es) := by rw [hrun, hdr, grun]
      have HS := Lib.hid hs0
      obtain ⟨b, off, cap', av, hv, hbB, c0, c1, c2, c3, c4, hav⟩ := hr.get hbl hB j x hx
      rw [HN.out] at hv
      cases hv
      have hxz := hz x (List.mem_of_getElem? hx)
      obtain ⟨aa, ac, rfl, -⟩ := id hav
      obtain ⟨k, ⟨n1, n2⟩, ats, tx⟩ := x
      simp only at c0 c1 c2 c3 c4 hav hxz
      have hbs := hbl.size
      have hb1 := (Below.refl wr.heap.size wr).alloc (Nat.le_refl _) (.cells #[.int .i8 k, .string n1, .string n2, .slice aa ats.length ac, .string tx] 30)
      have bX := BlkAt.new wr #[.int .i8 k, .string n1, .string n2, .slice aa ats.length ac, .string tx] 30
      have hFD := ref16_fields B ⟨k, (n1, n2), ats, tx⟩ (.slice aa ats.length ac) _ (hav.below hb1 (Nat.le_trans hB hbs)) (Nat.le_trans hB (Nat.le_trans hbs hb1.size)) hxz
      unfold evV at hFD
      simp only at hFD
      have hrow1 := own_below hrow hb1 (Nat.le_refl _)
      have hbw := hbl.trans (hb1.mono hbs)
      clear hrun hs0 hav
      cases hfd : fldB ⟨k, (n1, n2), ats, tx⟩ with
      | false =>
        have hRn : R = none := by rw [HS.out, gstep_no (fun g2 h => by rw [h.1] at hfd; cases hfd)]; rfl
        subst hRn
        rw [hfd] at hFD
        have HF := Lib.hid hFD
        clear hFD hfd hr hx hdr HS hz
        go_wp2_with fail
        refine (HF.out).mono ?_
        rintro r w2 ⟨rfl, hb2⟩
        go_wp2_with fail
        go_ret
        exact ⟨rfl, hbw.trans (hb2.mono hbw.size)⟩
      | true =>
        have hk3 := fldB_k hfd
        rw [hfd] at hFD
        have HF := Lib.hid hFD
        have hstep : ∀ g2, gstep es j ⟨k, (n1, n2), ats, tx⟩ ⟨cI os, ends, deep⟩ = some g2 → R = (grun es (j + 1) (es.drop (j + 1)) g2).bind (gfin es) := fun g2 h => by rw [HS.out, h]; rfl
        have hnone : (∀ g2, ¬ StepC es j ⟨k, (n1, n2), ats, tx⟩ (cI os) ends deep g2) → R = none := fun h => by rw [HS.out, gstep_no h]; rfl
        have HP := Lib.hid (fun (u : World) (hu : Below w.heap.size w u) (hru : u.ownsRow w.heap.size 24 2 (.slice va os.length vc) os.length (nmC (nmAt es os))) => app_nm u w.heap.size (.slice va os.length vc) os.length _ hru n1 n2 (by omega) hu.size)
        have hpush : k = 0 → ¬ (cI os = [] ∧ 0 < j) → ∀ (u u' : World) (v' : Value), Below w.heap.size w u → Below w.heap.size u u' → u'.ownsRow w.heap.size 24 2 v' (os.length + 1) (nmC (nmAt es os) ++ [.string n1, .string n2]) → RwI es R w (j + 1) v' ⟨cI os ++ [(j : Int)], ends, max deep ((cI os).length + 1)⟩ (os ++ [j]) u' := fun hk h0 u u' v' hu huu hro =>
          ⟨hstep _ (gstep_iff.2 ⟨hfd, fun h => h0 ⟨h.1, h.2.elim id fun h => absurd hk h⟩, .inl ⟨hk, rfl⟩⟩), by rw [cI_append]; rfl, fun o ho => by
            rcases List.mem_append.1 ho with ho | ho
            · have := holt o ho; omega
            · rw [List.mem_singleton] at ho; omega, by
            rw [List.length_append, nmAt_snoc es os j _ hx, nmC_snoc]
            exact hro, hu.trans huu, by rw [List.length_append]; simp; omega⟩
        have HPU := Lib.hid hpush
        have HNO := Lib.hid hnone
        have HST := Lib.hid hstep
        clear hpush hnone hstep HS hFD
        rcases List.eq_nil_or_concat os with hos | ⟨ini, u, hos⟩
        · subst hos
          simp only [List.length_nil] at hrow hrow1 hol HP HPU ⊢
          rcases Nat.eq_zero_or_pos j with h0 | h0
          · subst h0
            simp only [Nat.zero_mul, Nat.add_zero] at c0 c1 c2 c3 c4
            by_cases hk : k = 0
            · subst hk
              have HPV := Lib.hid (HPU.out rfl (by omega))
              clear hfd hr hx hdr hz hk3 HNO HST holt HPU
              go_wp2_with fail
              refine (HF.out).mono ?_
              rintro r w2 ⟨rfl, hb2⟩
              have bX2 := bX.below hb2 bX.lt
              have f0 : _ = some (Value.int .i8 0) := bX2.cell 0 rfl
              have f1 : _ = some (Value.string n1) := bX2.cell 1 rfl
              have f2 : _ = some (Value.string n2) := bX2.cell 2 rfl
              have hbw2 := hbw.trans (hb2.mono hbw.size)
              obtain ⟨v', w4, hrn, hro, hb4⟩ := HP.out w2 hbw2 (own_below hrow1 hb2 (Nat.le_refl _))
              have HR := Lib.hid hrn
              have HO := Lib.hid (HPV.out w2 w4 v' hbw2 hb4 hro)
              clear hrn hro bX bX2 hrow hrow1
              go_wp2_with (at_builtin; refine wpList_append_run rfl _ _ _ _ rfl _ _ rfl rfl _ _ HR.out ?_)
              exact ⟨⟨0 + 1, _, _, by go_num, by omega, HO.out⟩, by simp [intOf]; omega⟩
            · have hRn := HNO.out fun g2 h => h.2.1 ⟨rfl, .inr hk⟩
              subst hRn
              have q0 : (k == 0) = false := by simpa using hk
              have hk2 : k = 1 ∨ k = 2 := hk3.elim (fun h => absurd h hk) id
              clear hfd hr hx hdr hz hk3 HNO HST HPU HP holt hk
              rcases hk2 with rfl | rfl
              · go_wp2_with fail
                refine (HF.out).mono ?_
                rintro r w2 ⟨rfl, hb2⟩
                have f0 : _ = some (Value.int .i8 1) := (bX.below hb2 bX.lt).cell 0 rfl
                go_wp2_with fail
                go_quiet (fail)
                go_wp2_with fail
                go_ret
                exact ⟨rfl, below_dn (hbw.trans (hb2.mono hbw.size)) _⟩
              · go_wp2_with fail
                refine (HF.out).mono ?_
                rintro r w2 ⟨rfl, hb2⟩
                have f0 : _ = some (Value.int .i8 2) := (bX.below hb2 bX.lt).cell 0 rfl
                go_wp2_with fail
                go_ret
                exact ⟨rfl, hbw.trans (hb2.mono hbw.size)⟩
          · have hRn : R = none := HNO.out fun g2 h => h.2.1 ⟨rfl, .inl h0⟩
            subst hRn
            have hd0 := decide_eq_true (show (0 : Int) < (j : Int) by omega)
            clear hfd hr hx hdr hz hk3 HNO HST HPU HP
            go_wp2_with fail
            refine (HF.out).mono ?_
            rintro r w2 ⟨rfl, hb2⟩
            go_wp2_with fail
            go_ret
            exact ⟨rfl, hbw.trans (hb2.mono hbw.size)⟩
        · have hcn : ¬ cI os = [] := by rw [hos]; simp [cI]
          have hu := holt u (by rw [hos]; simp)
          have hd0 := decide_eq_true (show (0 : Int) < (j : Int) by omega)
          obtain ⟨m, hm⟩ : ∃ m, os.length = m := ⟨_, rfl⟩
          have hm1 : m = ini.length + 1 := by rw [← hm, hos]; simp
          have HM := Lib.hid hm
          rw [hm] at hrow hrow1 hol HP HPU ⊢
          have hm0 : ((m : Int) == 0) = false := by simp; omega
          have hm0' : ¬ (m : Int) = 0 := by omega
          have hmp : 1 ≤ m := by omega
          have HM1 := Lib.hid hm1
          clear hm hm1
          by_cases hk : k = 0
          · subst hk
            have HPV := Lib.hid (HPU.out rfl (fun h => hcn h.1))
            clear hfd hr hx hdr hz hk3 HNO HST holt HPU hcn hos
            go_wp2_with fail
            refine (HF.out).mono ?_
            rintro r w2 ⟨rfl, hb2⟩
            have bX2 := bX.below hb2 bX.lt
            have f0 : _ = some (Value.int .i8 0) := bX2.cell 0 rfl
            have f1 : _ = some (Value.string n1) := bX2.cell 1 rfl
            have f2 : _ = some (Value.string n2) := bX2.cell 2 rfl
            have hbw2 := hbw.trans (hb2.mono hbw.size)
            obtain ⟨v', w4, hrn, hro, hb4⟩ := HP.out w2 hbw2 (own_below hrow1 hb2 (Nat.le_refl _))
            have HR := Lib.hid hrn
            have HO := Lib.hid (HPV.out w2 w4 v' hbw2 hb4 hro)
            clear hrn hro bX bX2 hrow hrow1
            go_wp2_with (at_builtin; refine wpList_append_run rfl _ _ _ _ rfl _ _ rfl rfl _ _ HR.out ?_)
            exact ⟨⟨j + 1, _, _, by go_num, by omega, HO.out⟩, by simp [intOf]; omega⟩
          · have q0 : (k == 0) = false := by simpa using hk
            rcases hk3.elim (fun h => absurd h hk) id with hk1 | hk2
            · simp only at hk1
              subst hk1
              obtain ⟨z, hzz⟩ : ∃ z, es[u]? = some z := ⟨_, List.getElem?_eq_getElem (by rw [HN.out]; omega)⟩
              obtain ⟨g, cp, hva, hcp⟩ : ∃ g cp, va = some ⟨g, 0, none⟩ ∧ vc = cp := by
                rcases hrow.2 with ⟨h1, h2⟩ | ⟨g', cap', cur, h1, -⟩
                · omega
                · injection h1 with h2 h3 h4
                  exact ⟨g', cap', h2, h4⟩
              subst hva
              subst hcp
              have hmc : m ≤ vc := by
                rcases hrow.2 with ⟨h1, h2⟩ | ⟨g', cap', cur, h1, -, -, h2, -⟩
                · omega
                · injection h1 with h2 h3 h4
                  omega
              have hos2 : os = ini ++ [u] := by rw [hos, List.concat_eq_append]
              have hns : nmAt es os = nmAt es ini ++ [z.n] := by rw [hos2]; exact nmAt_snoc es ini u z hzz
              have hnl : (nmAt es ini).length = m - 1 := by rw [nmAt_len]; have := HM1.out; omega
              have hcut := own_cut hrow1 (m - 1) (by omega)
              rw [hns] at hcut hrow1
              have hat := nmC_at (nmAt es ini ++ [z.n]) (m - 1) z.n (by rw [← hnl]; simp)
              rw [← hnl, nmC_take, hnl] at hcut
              have hq2 : ((m : Int) - 1) = ((m - 1 : Nat) : Int) := by omega
              have hq3 : m - 1 < m := by omega
              have hq4 : m - 1 ≤ vc := by omega
              have hq6 : ((m - 1 : Nat) : Int) ≤ (vc : Int) := by omega
              have HRow := Lib.hid hrow1
              have HCut := Lib.hid hcut
              have HAt := Lib.hid hat
              clear hrow hrow1 hcut hat hdr hns hnl
              by_cases hzn : z.n = (n1, n2)
              · have hO := HST.out _ (gstep_iff.2 ⟨hfd, fun h => hcn h.1, .inr (.inr ⟨rfl, (u : Int), by rw [hos2, cI_append]; simp [cI], by rw [Int.toNat_natCast, hzz, ← hzn]; rfl, rfl⟩)⟩)
                have HO := Lib.hid hO
                have t1 := toL_self n1
                have t2 := toL_self n2
                have hoc : (cI os).dropLast = cI ini := by rw [hos2, cI_append]; simp [cI]
                have HI := Lib.hid (fun (u' : World) (hu' : Below w.heap.size w u') (hro : u'.ownsRow w.heap.size 24 2 (.slice (some ⟨g, 0, none⟩) (m - 1) vc) (m - 1) (nmC (nmAt es ini))) => (show RwI es R w (j + 1) (.slice (some ⟨g, 0, none⟩) (m - 1) vc) ⟨(cI os).dropLast, aPut ends (u : Int) (.int .i64 j), deep⟩ ini u' from ⟨HO.out, hoc, fun o ho => by have := holt o (by rw [hos2]; exact List.mem_append_left _ ho); omega, by rw [show ini.length = m - 1 by have := HM1.out; omega]; exact hro, hu', by have := HM1.out; omega⟩))
                clear hO HNO HST HPU HP hr hx hz hos hos2 hcn hfd hk3 holt hoc
                go_wp2_with fail
                refine (HF.out).mono ?_
                rintro r w2 ⟨rfl, hb2⟩
                have bX2 := bX.below hb2 bX.lt
                have f0 : _ = some (Value.int .i8 1) := bX2.cell 0 rfl
                have f1 : _ = some (Value.string n1) := bX2.cell 1 rfl
                have f2 : _ = some (Value.string n2) := bX2.cell 2 rfl
                have hbw2 := hbw.trans (hb2.mono hbw.size)
                have hrow2 := own_below HRow.out hb2 (Nat.le_refl _)
                have p0 := hrow2.cells (g := g) rfl _ _ HAt.out.1
                have p1 := hrow2.cells (g := g) rfl _ _ HAt.out.2
                rw [addr0, Nat.zero_add] at p0 p1
                rw [hzn] at p0 p1
                simp only at p0 p1
                have hcut2 := own_below HCut.out hb2 (Nat.le_refl _)
                clear bX bX2 hrow2
                go_wp2_with fail
                go_quiet (fail)
                go_wp2_with fail
                exact ⟨⟨j + 1, _, _, by go_num, by omega, HI.out _ (below_dn hbw2 _) (own_below hcut2 (below_dn (Below.refl _ w2) _) (Nat.le_refl _))⟩, by simp [intOf]; omega⟩
              · have hRn : R = none := HNO.out fun g2 h => by
                  obtain ⟨-, -, h | h | ⟨-, t, ht, hnm, -⟩⟩ := h
                  · exact absurd h.1 (by simp)
                  · exact absurd h.1 (by simp)
                  · rw [hos2] at ht
                    obtain ⟨ini', u', h1, rfl⟩ := last_cI ht
                    have h2 : u = u' := by simpa using (List.append_inj_right' h1 rfl)
                    subst h2
                    rw [Int.toNat_natCast, hzz] at hnm
                    exact hzn (by simpa using hnm)
                subst hRn
                have hne : (z.n.1.toList == n1.toList) = false ∨ ((z.n.1.toList == n1.toList) = true ∧ (z.n.2.toList == n2.toList) = false) := by
                  by_cases h1 : z.n.1 = n1
                  · refine .inr ⟨by rw [h1]; simp, toL_ne fun h2 => hzn (Prod.ext h1 h2)⟩
                  · exact .inl (toL_ne h1)
                clear HNO HST HPU HP hr hx hz hos hos2 hcn hfd hk3 holt hzn HCut
                go_wp2_with fail
                refine (HF.out).mono ?_
                rintro r w2 ⟨rfl, hb2⟩
                have bX2 := bX.below hb2 bX.lt
                have f0 : _ = some (Value.int .i8 1) := bX2.cell 0 rfl
                have f1 : _ = some (Value.string n1) := bX2.cell 1 rfl
                have f2 : _ = some (Value.string n2) := bX2.cell 2 rfl
                have hbw2 := hbw.trans (hb2.mono hbw.size)
                have hrow2 := own_below HRow.out hb2 (Nat.le_refl _)
                have p0 := hrow2.cells (g := g) rfl _ _ HAt.out.1
                have p1 := hrow2.cells (g := g) rfl _ _ HAt.out.2
                rw [addr0, Nat.zero_add] at p0 p1
                clear bX bX2 hrow2
                rcases hne with g1 | ⟨g1, g2⟩
                all_goals
                  go_wp2_with fail
                  go_quiet (fail)
                  go_wp2_with fail
                  go_ret
                  exact ⟨rfl, below_dn hbw2 _⟩
            · simp only at hk2
              subst hk2
              obtain ⟨y, hy⟩ : ∃ y, es[j - 1]? = some y := ⟨_, List.getElem?_eq_getElem (by rw [HN.out]; omega)⟩
              have hq2 : ((j : Int) - 1) = ((j - 1 : Nat) : Int) := by omega
              have hq3 : j - 1 < n := by omega
              by_cases hyk : y.k = 2
              · have hRn : R = none := HNO.out fun g2 h => by
                  obtain ⟨-, -, h | h | h⟩ := h
                  · exact absurd h.1 (by simp)
                  · exact h.2.1 (by rw [hy, ← hyk]; rfl)
                  · exact absurd h.1 (by simp)
                subst hRn
                clear HNO HST HPU HP
                go_wp2_with fail
                refine (HF.out).mono ?_
                rintro r w2 ⟨rfl, hb2⟩
                have f0 : _ = some (Value.int .i8 2) := (bX.below hb2 bX.lt).cell 0 rfl
                have hbw2 := hbw.trans (hb2.mono hbw.size)
                obtain ⟨b', off', cap', av', hv', -, p0, -⟩ := hr.get hbw2 hB (j - 1) y hy
                rw [HN.out] at hv'
                cases hv'
                rw [hyk] at p0
                clear hr hx hdr hz hy
                go_wp2_with fail
                go_ret
                exact ⟨rfl, hbw2⟩
              · have q1 : (y.k == 2) = false := by simpa using hyk
                have hO := HST.out _ (gstep_iff.2 ⟨hfd, fun h => hcn h.1, .inr (.inl ⟨rfl, fun h => hyk (by rw [hy] at h; simpa using h), rfl⟩)⟩)
                have HO := Lib.hid hO
                clear HNO HST HPU HP hO
                go_wp2_with fail
                refine (HF.out).mono ?_
                rintro r w2 ⟨rfl, hb2⟩
                have f0 : _ = some (Value.int .i8 2) := (bX.below hb2 bX.lt).cell 0 rfl
                have hbw2 := hbw.trans (hb2.mono hbw.size)
                obtain ⟨b', off', cap', av', hv', -, p0, -⟩ := hr.get hbw2 hB (j - 1) y hy
                rw [HN.out] at hv'
                cases hv'
                have hrow2 := own_below hrow1 hb2 (Nat.le_refl _)
                have HI := Lib.hid (show RwI es R w (j + 1) (.slice va m vc) ⟨cI os, ends, deep⟩ os w2 from ⟨HO.out, rfl, fun o ho => by have := holt o ho; omega, by rw [HM.out]; exact hrow2, hbw2, by rw [HM.out]; omega⟩)
                clear hr hx hdr hz hy hrow hrow1 hrow2
                go_wp2_with fail
                exact ⟨⟨j + 1, _, _, by go_num, by omega, HI.out⟩, by simp [intOf]; omega⟩
    · have hd := decide_eq_false (show ¬ (j : Int) < (n : Int) by omega)
      rw [List.drop_eq_nil_of_le (by rw [HN.out]; omega)] at hrun
      obtain ⟨m, hm⟩ : ∃ m, os.length = m := ⟨_, rfl⟩
      have hR : R.isSome = (decide ((0 : Int) < (n : Int)) && ((m : Int) == 0)) := by
        rw [hrun]
        show (gfin es ⟨cI os, ends, deep⟩).isSome = _
        unfold gfin
        have h1 : es = [] ↔ n = 0 := by rw [← HN.out]; exact List.length_eq_zero_iff.symm
        have h2 : cI os = [] ↔ m = 0 := by rw [cI_nil_iff, ← hm]; exact List.length_eq_zero_iff.symm
        by_cases e1 : n = 0
        · rw [if_pos (.inl (h1.2 e1)), decide_eq_false (by omega)]
          rfl
        · by_cases e2 : m = 0
          · rw [if_neg (fun hh => hh.elim (fun h => e1 (h1.1 h)) fun h => h (h2.2 e2)), decide_eq_true (by omega), e2]
            rfl
          · rw [if_pos (.inr fun h => e2 (h2.1 h)), decide_eq_true (by omega), show ((m : Int) == 0) = false by simp; omega]
            rfl
      have HR := Lib.hid hR
      rw [hm] at hrow ⊢
      clear hR hr hrun hm hrow hz
      by_cases e1 : n = 0
      · subst e1
        go_wp2_with fail
        go_ret
        exact ⟨ret_bool (by rw [HR.out]; rfl), hbl⟩
      · have e2 := decide_eq_true (show (0 : Int) < (n : Int) by omega)
        go_wp2_with fail
        go_ret
        exact ⟨ret_bool (by rw [HR.out, e2]; rfl), hbl⟩
end Go.Proofs.Yteefopeclfojiaa
