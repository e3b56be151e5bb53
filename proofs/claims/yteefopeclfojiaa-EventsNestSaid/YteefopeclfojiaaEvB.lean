/-
  Layer 16: the walk of events.grow.
-/
import Derived.Test.YteefopeclfojiaaEvA
import Derived.Test.YteefopeclfojiaaEvS
import Derived.IntWalk
import Derived.WalkMore
import Derived.StillTailTactics
namespace Go.Proofs.Yteefopeclfojiaa
open Go.RowKit
/-- what grow comes to. -/
def GrowS (w w' : World) (v : Value) (R : Option Gr) (e : Ending) : Prop := match R with
  | none => e = .returned (.pointer none) ∧ Below w.heap.size w w'
  | some g => ∃ p mb, e = .returned (.pointer (some ⟨p, 0, none⟩)) ∧ Below w.heap.size w w' ∧ BlkAt w' p #[v, .map (some mb), .int .i64 g.deep] ∧ IMap w' .i64 mb g.ends ∧ w.heap.size ≤ p ∧ w.heap.size ≤ mb
/-- what lasts within grow's loop. -/
structure GrI (w : World) (v : Value) (vs : Value) (g : Gr) (wr : World) : Prop where
  tr : BlkAt wr (w.heap.size + 1) #[v, .map (some w.heap.size), .int .i64 g.deep]
  mp : IMap wr .i64 w.heap.size g.ends
  st : Stk (w.heap.size + 2) wr vs g.op
  bl : Below w.heap.size w wr
theorem GrI.below {w : World} {v vs : Value} {g : Gr} {wr wx : World} (h : GrI w v vs g wr) (hb : Below wr.heap.size wr wx) : GrI w v vs g wx :=
  ⟨h.tr.below hb h.tr.lt, h.mp.below hb (Nat.le_refl _), h.st.below hb (Nat.le_refl _), bt h.bl hb⟩
theorem GrI.alloc {w : World} {v vs : Value} {g : Gr} {wr : World} (h : GrI w v vs g wr) (o : Obj) : GrI w v vs g (wr.alloc o) := h.below ((Below.refl _ wr).alloc (Nat.le_refl _) o)
theorem GrI.drewN {w : World} {v vs : Value} {g : Gr} {wr : World} (h : GrI w v vs g wr) (n : Nat) : GrI w v vs g (wr.drewN n) := h.below (below_dn (Below.refl _ wr) n)
theorem toL_ne {a b : ByteArray} (h : a ≠ b) : (a.toList == b.toList) = false := by
  have : ¬ a.toList = b.toList := fun e => h (by
    rw [ByteArray.toList_eq, ByteArray.toList_eq] at e
    exact ByteArray.ext (Array.toList_inj.1 e))
  simpa using this
theorem gr_cell (w : World) (p i : Nat) (v : Value) : w.grownBy (w.setCell ⟨p, i, none⟩ v) (some p) := ⟨rfl, rfl, rfl, Nat.le_of_eq (by simp), fun b _ hne => heap_setCell_other w ⟨p, i, none⟩ b v (fun e => hne (by rw [e]))⟩
theorem IMap.low {W W' : World} {kk : IntKind} {b : Nat} {L : List (Int × Value)} (h : IMap W kk b L) {B : Nat} (hb : Below B W W') (hlt : b < B) : IMap W' kk b L := by
  obtain ⟨es, clock, he, hL⟩ := h
  exact ⟨es, clock, (hb.block b hlt).trans he, hL⟩
/-- one more is open. -/
theorem GrI.pushed {w : World} {v vs vs' : Value} {op op' : List Int} {ends : List (Int × Value)} {deep : Nat} {wr wx : World} (h : GrI w v vs ⟨op, ends, deep⟩ wr) (hst : Stk (w.heap.size + 2) wx vs' op') (hb : Below (w.heap.size + 2) wr wx) (D : Nat) :
    GrI w v vs' ⟨op', ends, D⟩ (wx.setCell ⟨w.heap.size + 1, 2, none⟩ (.int .i64 D)) :=
  ⟨(h.tr.below hb (by omega)).set 2 (.int .i64 D), (h.mp.low hb (by omega)).kept (gr_cell wx _ 2 _) (by intro e; injection e with e; omega), hst.kept (gr_cell wx _ 2 _) (by omega), (h.bl.trans (hb.mono (by omega))).setCell (p := ⟨w.heap.size + 1, 2, none⟩) (by show w.heap.size ≤ w.heap.size + 1; omega) _⟩
set_option maxRecDepth 100000 in
set_option maxHeartbeats 8000000 in
theorem events_grow (B : Nat) (es : List Evt) (v : Value) (w : World) (hr : EvsR B w v es) (hB : B ≤ w.heap.size) (hn : es.length ≤ 1000000) (hz : ∀ e ∈ es, e.at_.length ≤ 140737488351232) :
    Calls Try.prog 59 #[v] w fun r w' => GrowS w w' v (growP es) r := by
  have hr0 := hr
  obtain ⟨avs, ⟨a, cap, rfl, -⟩, -⟩ := hr0
  obtain ⟨n, hnn⟩ : ∃ n, es.length = n := ⟨_, rfl⟩
  have HN := Lib.hid hnn
  rw [hnn] at hr hn ⊢
  clear hnn
  obtain ⟨R, hR⟩ : ∃ R, growP es = R := ⟨_, rfl⟩
  rw [hR]
  have HR : Hid (R = (grun es 0 (es.drop 0) ⟨[], [], 0⟩).bind (gfin es)) := Lib.hid hR.symm
  clear hR
  have hmm := @run_makeMap Try.prog
  have G0 : GrI w (.slice a n cap) (.slice none 0 0) ⟨[], [], 0⟩ ((w.alloc (.map #[] 0)).alloc (.cells #[.slice a n cap, .map (some w.heap.size), .int .i64 0] 82)) := by
    have hb := ((Below.refl w.heap.size w).alloc (Nat.le_refl _) (.map #[] 0)).alloc (by simp) (.cells #[.slice a n cap, .map (some w.heap.size), .int .i64 0] 82)
    have h1 := BlkAt.new (w.alloc (.map #[] 0)) #[.slice a n cap, .map (some w.heap.size), .int .i64 0] 82
    rw [show (w.alloc (.map #[] 0)).heap.size = w.heap.size + 1 by simp] at h1
    exact ⟨h1, (IMap.made w .i64).alloc _, Stk.nil _ _, hb⟩
  go_enter Try.func59, Try.ntmps59
  go_wp2_with fail
  go_step3
  go_wp2_with fail
  go_step3
  go_wp2_with fail
  clear hmm
  generalize (w.alloc (.map #[] 0)).alloc (.cells #[.slice a n cap, .map (some w.heap.size), .int .i64 0] 82) = w1 at G0 ⊢
  go_loopw [4, 15] (fun vs i wr => ∃ (j : Nat) (g : Gr), i = .int .i64 j ∧ j ≤ n ∧ Hid (R = (grun es j (es.drop j) g).bind (gfin es)) ∧ GrI w (.slice a n cap) vs g wr ∧ g.op.length ≤ j ∧ g.deep ≤ j ∧ Hid (∀ t ∈ g.op, 0 ≤ t ∧ t < j)) (fun _ i _ => n - (intOf i).toNat)
  case atStart => exact ⟨0, ⟨[], [], 0⟩, rfl, by omega, HR, G0, by simp, by simp, Lib.hid (fun t h => by cases h)⟩
  case round =>
    clear G0 HR
    obtain ⟨j, g, rfl, hj, HK, G, hgl, hgd, HO⟩ := hrel
    obtain ⟨op, ends, deep⟩ := g
    simp only at hgl hgd HO
    by_cases hlt : j < n
    · obtain ⟨x, hx⟩ : ∃ x, es[j]? = some x := ⟨_, List.getElem?_eq_getElem (by rw [HN.out]; exact hlt)⟩
      have hdr : es.drop j = x :: es.drop (j + 1) := by
        obtain ⟨h1, h2⟩ := List.getElem?_eq_some_iff.1 hx
        rw [← h2, List.drop_eq_getElem_cons h1]
      have hq := HK.out
      rw [hdr, grun] at hq
      obtain ⟨b, off, cap', av, hv, hbB, c0, c1, c2, c3, c4, hav⟩ := hr.get G.bl hB j x hx
      rw [HN.out] at hv
      cases hv
      have hxz := hz x (List.mem_of_getElem? hx)
      have hav0 := hav
      obtain ⟨aa, ac, rfl, -⟩ := hav0
      obtain ⟨oa, oc, hvs, hof⟩ := G.st.form
      simp only at hvs hof
      subst hvs
      obtain ⟨k, nm, ats, tx⟩ := x
      simp only at c0 c1 c2 c3 c4 hav hxz
      have G1 := G.alloc (.cells #[.int .i8 k, .string nm.1, .string nm.2, .slice aa ats.length ac, .string tx] 30)
      have hav1 := hav.below ((Below.refl _ wr).alloc (Nat.le_refl _) (.cells #[.int .i8 k, .string nm.1, .string nm.2, .slice aa ats.length ac, .string tx] 30)) (Nat.le_trans hB G.bl.size)
      have E1 := BlkAt.new wr #[.int .i8 k, .string nm.1, .string nm.2, .slice aa ats.length ac, .string tx] 30
      have hBs : B ≤ (wr.alloc (.cells #[.int .i8 k, .string nm.1, .string nm.2, .slice aa ats.length ac, .string tx] 30)).heap.size := Nat.le_trans hB (Nat.le_trans G.bl.size (by simp))
      have hFD := events_fields B ⟨k, nm, ats, tx⟩ (.slice aa ats.length ac) (wr.alloc (.cells #[.int .i8 k, .string nm.1, .string nm.2, .slice aa ats.length ac, .string tx] 30)) hav1 hBs hxz
      unfold evV at hFD
      simp only at hFD
      have hebs : w.heap.size + 2 ≤ wr.heap.size := by
        have h1 := G.tr.lt
        omega
      obtain ⟨m, hm⟩ : ∃ m, op.length = m := ⟨_, rfl⟩
      cases hfd : fldB ⟨k, nm, ats, tx⟩ with
      | false =>
        have hRn : R = none := by rw [hq]; unfold gstep; rw [if_pos hfd]; rfl
        subst hRn
        rw [hfd] at hFD
        have HF := Lib.hid hFD
        clear hq hFD hfd hr hx hdr HK hm
        go_wp2_with fail
        refine (HF.out).mono ?_
        rintro r w2 ⟨rfl, hb2⟩
        have G2 := G1.below hb2
        go_wp2_with fail
        try rw [Exit.noGoto_ret]
        go_ret
        exact ⟨rfl, G2.bl⟩
      | true =>
        rw [hfd] at hFD
        have HF := Lib.hid hFD
        have hq2 : R = ((gbody es j k nm ⟨op, ends, deep⟩).bind (grun es (j + 1) (es.drop (j + 1)))).bind (gfin es) := by
          rw [hq]
          unfold gstep
          rw [if_neg (by rw [hfd]; decide)]
        unfold gbody at hq2
        simp only at hq2
        clear hq hFD hfd HK
        by_cases hout : op = [] ∧ (0 < j ∨ k ≠ 0)
        · rw [if_pos hout] at hq2
          have hRn : R = none := hq2
          subst hRn
          obtain ⟨hop, hjk⟩ := hout
          subst hop
          simp only [List.length_nil] at hm
          subst hm
          have hjk2 : 0 < j ∨ (j = 0 ∧ (k != 0) = true) := by
            rcases hjk with h | h
            · exact .inl h
            · rcases Nat.eq_zero_or_pos j with h0 | h0
              · exact .inr ⟨h0, by simpa using h⟩
              · exact .inl h0
          clear hq2 hr hx hdr hjk
          rcases hjk2 with h0 | ⟨h0, h1⟩
          · go_wp2_with fail
            refine (HF.out).mono ?_
            rintro r w2 ⟨rfl, hb2⟩
            have G2 := G1.below hb2
            go_wp2_with fail
            try rw [Exit.noGoto_ret]
            go_ret
            exact ⟨rfl, G2.bl⟩
          · subst h0
            simp only [Nat.zero_mul, Nat.add_zero] at c0 c1 c2 c3 c4
            go_wp2_with fail
            refine (HF.out).mono ?_
            rintro r w2 ⟨rfl, hb2⟩
            have G2 := G1.below hb2
            have E2 : _ = some (Value.int .i8 k) := (E1.below hb2 E1.lt).cell 0 rfl
            go_wp2_with fail
            try rw [Exit.noGoto_ret]
            go_ret
            exact ⟨rfl, G2.bl⟩
        · rw [if_neg hout] at hq2
          by_cases hk0 : k = 0
          · subst hk0
            rw [if_pos rfl] at hq2
            have HQ : Hid (R = (grun es (j + 1) (es.drop (j + 1)) ⟨op ++ [(j : Int)], ends, max deep (op.length + 1)⟩).bind (gfin es)) := Lib.hid hq2
            have hm0 : (m = 0 ∧ j = 0) ∨ 0 < m := by
              rcases Nat.eq_zero_or_pos m with h | h
              · refine .inl ⟨h, ?_⟩
                rcases Nat.eq_zero_or_pos j with h1 | h1
                · exact h1
                · exact absurd ⟨List.eq_nil_of_length_eq_zero (by omega), .inl h1⟩ hout
              · exact .inr h
            have HM := Lib.hid hm
            rw [hm] at G G1 ⊢
            clear hq2 hx hdr hout hm hr
            have HO2 : Hid (∀ t ∈ op ++ [(j : Int)], 0 ≤ t ∧ t < ((j + 1 : Nat) : Int)) := Lib.hid fun t ht => by
              rcases List.mem_append.1 ht with h | h
              · have := HO.out t h
                omega
              · rw [List.mem_singleton.1 h]
                omega
            obtain ⟨D, hD⟩ : ∃ D, max deep (op.length + 1) = D := ⟨_, rfl⟩
            rw [hD] at HQ
            have hDl : D ≤ j + 1 := by omega
            have hmax : (if (deep : Int) < (m : Int) + 1 then (m : Int) + 1 else (deep : Int)) = (D : Int) := by rw [← hD, HM.out]; split <;> omega
            clear hD
            rcases hm0 with ⟨h1, h2⟩ | h1
            · subst h1
              subst h2
              obtain rfl : D = 1 := by split at hmax <;> omega
              clear hmax
              simp only [Nat.zero_mul, Nat.add_zero] at c0 c1 c2 c3 c4
              go_wp2_with fail
              refine (HF.out).mono ?_
              rintro r w2 ⟨rfl, hb2⟩
              have G2 := G1.below hb2
              have E2 : _ = some (Value.int .i8 0) := (E1.below hb2 E1.lt).cell 0 rfl
              obtain ⟨v', w3, hp1, hp2, hp3⟩ := G2.st.push (((0 : Nat) : Int) : Int) (by simp only [HM.out]; omega) (by have := G2.tr.lt; omega)
              obtain ⟨a3, k3, hv3, hof3⟩ := hp2.form
              rw [List.length_append, show [(((0 : Nat) : Int) : Int)].length = 1 from rfl] at hv3
              simp only [HM.out] at hv3
              subst hv3
              have HA := Lib.hid hp1
              have G3 := G2.pushed hp2 hp3 1
              have T3 : _ = some (Value.int .i64 deep) := (G2.tr.below hp3 (by omega)).cell 2 rfl
              have F3 := (G2.tr.below hp3 (by omega)).free 2
              clear hp1 hp2 hp3 G2
              go_wp2_with (at_builtin; refine wpList_append_run rfl _ _ _ _ rfl _ _ rfl rfl _ _ HA.out ?_)
              exact ⟨⟨0 + 1, ⟨op ++ [((0 : Nat) : Int)], ends, 1⟩, by go_num, by omega, HQ, G3, by simp only [List.length_append, List.length_cons, List.length_nil]; omega, hDl, HO2⟩, by simp [intOf]; omega⟩
            · go_wp2_with fail
              refine (HF.out).mono ?_
              rintro r w2 ⟨rfl, hb2⟩
              have G2 := G1.below hb2
              have E2 : _ = some (Value.int .i8 0) := (E1.below hb2 E1.lt).cell 0 rfl
              obtain ⟨v', w3, hp1, hp2, hp3⟩ := G2.st.push (j : Int) (by simp only [HM.out]; omega) (by have := G2.tr.lt; omega)
              obtain ⟨a3, k3, hv3, hof3⟩ := hp2.form
              rw [List.length_append, show [(j : Int)].length = 1 from rfl] at hv3
              simp only [HM.out] at hv3
              subst hv3
              have HA := Lib.hid hp1
              have G3 := G2.pushed hp2 hp3 D
              have T3 : _ = some (Value.int .i64 deep) := (G2.tr.below hp3 (by omega)).cell 2 rfl
              have F3 := (G2.tr.below hp3 (by omega)).free 2
              clear hp1 hp2 hp3 G2
              go_wp2_with (at_builtin; refine wpList_append_run rfl _ _ _ _ rfl _ _ rfl rfl _ _ HA.out ?_)
              exact ⟨⟨j + 1, ⟨op ++ [(j : Int)], ends, D⟩, by go_num, by omega, HQ, G3, by simp only [List.length_append, List.length_cons, List.length_nil]; omega, hDl, HO2⟩, by simp [intOf]; omega⟩
          · have hne : op ≠ [] := fun h => hout ⟨h, .inr hk0⟩
            have hm0 : 0 < m := by rw [← hm]; exact List.length_pos_iff.2 hne
            have hj0 : 0 < j := by omega
            have q0 : (k == 0) = false := by simpa using hk0
            rw [if_neg hk0] at hq2
            have HM := Lib.hid hm
            by_cases hk2 : k = 2
            · subst hk2
              rw [if_pos rfl] at hq2
              obtain ⟨y, hy⟩ : ∃ y, es[j - 1]? = some y := ⟨_, List.getElem?_eq_getElem (by rw [HN.out]; omega)⟩
              rw [hy] at hq2
              rw [hm] at G G1 ⊢
              clear hx hdr hout hm hk0 hne q0
              by_cases hyk : y.k = 2
              · have hRn : R = none := by rw [hq2, if_pos (by rw [← hyk]; rfl)]; rfl
                subst hRn
                have q1 : (y.k == 2) = true := by simp [hyk]
                clear hq2
                go_wp2_with fail
                refine (HF.out).mono ?_
                rintro r w2 ⟨rfl, hb2⟩
                have G2 := G1.below hb2
                have E2 : _ = some (Value.int .i8 2) := (E1.below hb2 E1.lt).cell 0 rfl
                obtain ⟨b', off', cap', av', hv', -, d0, -⟩ := hr.get G2.bl hB (j - 1) y hy
                rw [HN.out] at hv'
                cases hv'
                clear hr hyk
                go_wp2_with fail
                try rw [Exit.noGoto_ret]
                go_ret
                exact ⟨rfl, G2.bl⟩
              · have HQ : Hid (R = (grun es (j + 1) (es.drop (j + 1)) ⟨op, ends, deep⟩).bind (gfin es)) := Lib.hid (by rw [hq2, if_neg (by intro e; injection e with e; exact hyk e)]; rfl)
                have q1 : (y.k == 2) = false := by simpa using hyk
                have HO2 : Hid (∀ t ∈ op, 0 ≤ t ∧ t < ((j + 1 : Nat) : Int)) := Lib.hid fun t ht => by have := HO.out t ht; omega
                clear hq2
                go_wp2_with fail
                refine (HF.out).mono ?_
                rintro r w2 ⟨rfl, hb2⟩
                have G2 := G1.below hb2
                have E2 : _ = some (Value.int .i8 2) := (E1.below hb2 E1.lt).cell 0 rfl
                obtain ⟨b', off', cap', av', hv', -, d0, -⟩ := hr.get G2.bl hB (j - 1) y hy
                rw [HN.out] at hv'
                cases hv'
                clear hr hyk
                go_wp2_with fail
                exact ⟨⟨j + 1, ⟨op, ends, deep⟩, by go_num, by omega, HQ, G2, by simp only; omega, by simp only; omega, HO2⟩, by simp [intOf]; omega⟩
            · have q2 : (k == 2) = false := by simpa using hk2
              rw [if_neg hk2] at hq2
              obtain ⟨ini, tt, rfl⟩ : ∃ ini tt, op = ini ++ [tt] := ⟨op.dropLast, op.getLast hne, (List.dropLast_concat_getLast hne).symm⟩
              rw [show (ini ++ [tt]).getLast? = some tt by simp] at hq2
              simp only [List.dropLast_concat] at hq2
              obtain ⟨I, hI⟩ : ∃ I, ini.length = I := ⟨_, rfl⟩
              have hm1 : (ini ++ [tt]).length = I + 1 := by rw [List.length_append, hI]; rfl
              have hto := HO.out tt (by simp)
              obtain ⟨tn, rfl⟩ : ∃ tn : Nat, tt = (tn : Int) := ⟨tt.toNat, by omega⟩
              rw [Int.toNat_natCast] at hq2
              obtain ⟨z, hzz⟩ : ∃ z, es[tn]? = some z := ⟨_, List.getElem?_eq_getElem (by rw [HN.out]; omega)⟩
              rw [hzz] at hq2
              rw [hm1] at G G1 ⊢
              have htl : tn < j := by omega
              obtain ⟨zk, zn, zat, ztx⟩ := z
              have hIl : I + 1 ≤ j := by rw [← hm1]; exact hgl
              clear hx hdr hout hm HM hm0 hk0 hk2 hne hgl hto
              by_cases hnm : zn = nm
              · subst hnm
                have HQ : Hid (R = (grun es (j + 1) (es.drop (j + 1)) ⟨ini, aPut ends (tn : Int) (.int .i64 j), deep⟩).bind (gfin es)) := Lib.hid (by rw [hq2, if_pos (show Option.map Evt.n (some (⟨zk, zn, zat, ztx⟩ : Evt)) = some zn from rfl)]; rfl)
                have HO2 : Hid (∀ t ∈ ini, 0 ≤ t ∧ t < ((j + 1 : Nat) : Int)) := Lib.hid fun t ht => by have := HO.out t (List.mem_append_left _ ht); omega
                clear hq2
                go_wp2_with fail
                refine (HF.out).mono ?_
                rintro r w2 ⟨rfl, hb2⟩
                have G2 := G1.below hb2
                have E2 : _ = some (Value.int .i8 k) := (E1.below hb2 E1.lt).cell 0 rfl
                have E3 : _ = some (Value.string zn.1) := (E1.below hb2 E1.lt).cell 1 rfl
                have E4 : _ = some (Value.string zn.2) := (E1.below hb2 E1.lt).cell 2 rfl
                obtain ⟨b', off', cap', av', hv', -, -, d1, d2, -⟩ := hr.get G2.bl hB tn ⟨zk, zn, zat, ztx⟩ hzz
                rw [HN.out] at hv'
                cases hv'
                obtain ⟨sb, sc, hvs, hsb, s0, hsc⟩ := G2.st.read I (tn : Int) (by simp [← hI])
                simp only [hm1] at hvs
                cases hvs
                simp only at d1 d2
                have T1 : _ = some (Value.map (some w.heap.size)) := G2.tr.cell 1 rfl
                have G3 := G2.drewN
                clear hr
                go_wp2_with fail
                go_quiet (fail)
                rename_i nq
                have G3' := G3 nq
                have s1 : World.cell? (w2.drewN nq) ⟨sb, I, none⟩ = some (.int .i64 (tn : Int)) := s0
                have T2 : World.cell? (w2.drewN nq) ⟨w.heap.size + 1, 1, none⟩ = some (.map (some w.heap.size)) := T1
                obtain ⟨w3, hw3⟩ : ∃ w3, w2.drewN nq = w3 := ⟨_, rfl⟩
                rw [hw3] at G3' s1 T2 ⊢
                clear hw3 G3
                have G4 : GrI w (.slice (some ⟨b, off, none⟩) n cap) (.slice (some ⟨sb, 0, none⟩) (I + 1) oc) ⟨ini ++ [(tn : Int)], ends, deep⟩ { heap := w3.heap, tape := w3.tape, drawn := w3.drawn + 1, os := w3.os, output := w3.output } := G3'.drewN 1
                have s2 : World.cell? { heap := w3.heap, tape := w3.tape, drawn := w3.drawn + 1, os := w3.os, output := w3.output } ⟨sb, I, none⟩ = some (.int .i64 (tn : Int)) := s1
                have T3 : World.cell? { heap := w3.heap, tape := w3.tape, drawn := w3.drawn + 1, os := w3.os, output := w3.output } ⟨w.heap.size + 1, 1, none⟩ = some (.map (some w.heap.size)) := T2
                have G5 : GrI w (.slice (some ⟨b, off, none⟩) n cap) (.slice (some ⟨sb, 0, none⟩) (I + 1) oc) ⟨ini ++ [(tn : Int)], ends, deep⟩ w3.drew := G4
                have hI1 : (I : Int) < (I : Int) + 1 := by omega
                obtain ⟨w4, hup, him, hgr⟩ := G5.mp.update (t := 80) Try.underlying80 Try.underlying3 (tn : Int) (.int .i64 j)
                go_wp2_with fail
                go_still_tail 9, (by kernel_rfl)
                have hst : Stk (w.heap.size + 2) w4 (.slice (some ⟨sb, 0, none⟩) I I) ini := by
                  have h1 := G5.st.kept hgr (by omega)
                  simp only at h1
                  rw [← hI] at h1 ⊢
                  exact h1.cut (by rw [hI]; unfold maxLen; omega)
                have G6 : GrI w (.slice (some ⟨b, off, none⟩) n cap) (.slice (some ⟨sb, 0, none⟩) I I) ⟨ini, aPut ends (tn : Int) (.int .i64 j), deep⟩ w4 :=
                  ⟨G5.tr.grown hgr (by intro e; injection e with e; omega), him, hst, G5.bl.grown hgr G5.bl.size (fun k e => by cases e; exact Nat.le_refl _)⟩
                go_wp2_with fail
                exact ⟨⟨j + 1, ⟨ini, aPut ends (tn : Int) (.int .i64 j), deep⟩, by go_num, by omega, HQ, G6, by simp only [hI]; omega, by simp only; omega, HO2⟩, by simp [intOf]; omega⟩
              · have hRn : R = none := by rw [hq2, if_neg (by intro e; injection e with e; exact hnm e)]; rfl
                subst hRn
                clear hq2
                have hne2 : (zn.1.toList == nm.1.toList) = false ∨ ((zn.1.toList == nm.1.toList) = true ∧ (zn.2.toList == nm.2.toList) = false) := by
                  by_cases h1 : zn.1 = nm.1
                  · refine .inr ⟨by rw [h1]; simp, toL_ne fun h2 => hnm (Prod.ext h1 h2)⟩
                  · exact .inl (toL_ne h1)
                go_wp2_with fail
                refine (HF.out).mono ?_
                rintro r w2 ⟨rfl, hb2⟩
                have G2 := G1.below hb2
                have E2 : _ = some (Value.int .i8 k) := (E1.below hb2 E1.lt).cell 0 rfl
                have E3 : _ = some (Value.string nm.1) := (E1.below hb2 E1.lt).cell 1 rfl
                have E4 : _ = some (Value.string nm.2) := (E1.below hb2 E1.lt).cell 2 rfl
                obtain ⟨b', off', cap', av', hv', -, -, d1, d2, -⟩ := hr.get G2.bl hB tn ⟨zk, zn, zat, ztx⟩ hzz
                rw [HN.out] at hv'
                cases hv'
                obtain ⟨sb, sc, hvs, hsb, s0, -⟩ := G2.st.read I (tn : Int) (by simp [← hI])
                simp only [hm1] at hvs
                cases hvs
                simp only at d1 d2
                have G3 := G2.drewN
                clear hr hnm
                rcases hne2 with g1 | ⟨g1, g2⟩
                all_goals
                  go_wp2_with fail
                  go_quiet (fail)
                  go_wp2_with fail
                  try rw [Exit.noGoto_ret]
                  go_ret
                  exact ⟨rfl, (G3 _).bl⟩
    · rw [List.drop_eq_nil_of_le (by rw [HN.out]; omega), grun] at HK
      obtain rfl : j = n := by omega
      have hq : R = gfin es ⟨op, ends, deep⟩ := HK.out
      unfold gfin at hq
      simp only at hq
      obtain ⟨oa, oc, hvs, hof⟩ := G.st.form
      simp only at hvs
      subst hvs
      by_cases h0 : es = [] ∨ op ≠ []
      · rw [if_pos h0] at hq
        subst hq
        have h1 : j = 0 ∨ (0 < j ∧ 0 < op.length) := by
          rcases Nat.eq_zero_or_pos j with h | h
          · exact .inl h
          · refine .inr ⟨h, ?_⟩
            rcases h0 with h0 | h0
            · rw [← HN.out, h0] at h; simp at h
            · exact List.length_pos_iff.2 h0
        clear h0 HK hr
        rcases h1 with h1 | ⟨h1, h2⟩
        · subst h1
          go_wp2_with fail
          try rw [Exit.noGoto_ret]
          go_ret
          exact ⟨rfl, G.bl⟩
        · go_wp2_with fail
          try rw [Exit.noGoto_ret]
          go_ret
          exact ⟨rfl, G.bl⟩
      · rw [if_neg h0] at hq
        subst hq
        have h1 : 0 < j := by
          rw [← HN.out]
          exact List.length_pos_iff.2 (fun e => h0 (.inl e))
        have h2 : op.length = 0 := by
          rcases Nat.eq_zero_or_pos op.length with h | h
          · exact h
          · exact absurd (.inr (List.length_pos_iff.1 h)) h0
        clear h0 HK hr
        rw [h2]
        go_wp2_with fail
        try rw [Exit.noGoto_ret]
        go_ret
        exact ⟨_, _, rfl, G.bl, G.tr, G.mp, by omega, by omega⟩
end Go.Proofs.Yteefopeclfojiaa
