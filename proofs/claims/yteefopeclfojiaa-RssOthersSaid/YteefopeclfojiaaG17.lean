/-
  Parts RsW RsX RsQ RsY of this seat's texts, in one file: contracts of functions that the law reaches, and the plain laws behind them. No condition.
-/
import Derived.Test.YteefopeclfojiaaG16
import Derived.Test.YteefopeclfojiaaG7
import Derived.Test.YteefopeclfojiaaG11
/- 
  Layer 23: the walk of the document's Great.
 -/
namespace Go.Proofs.Yteefopeclfojiaa
open Go.RowKit
/-- an event that is not too great to be asked. -/
structure GE (e : Evt) : Prop where
  tx : e.tx.size ≤ 2000
  at_ : e.at_.length ≤ 30
  n1 : e.n.1.size ≤ 300
  n2 : e.n.2.size ≤ 300
  av : ∀ a ∈ e.at_, a.2.size ≤ 2000
structure Great23 (es : List Evt) : Prop where
  len : es.length ≤ 300
  ev : ∀ e ∈ es, GE e
theorem txs_le : ∀ (es : List Evt), (∀ e ∈ es, GE e) → (txsL es).length ≤ es.length * 2000
  | [], _ => by simp [txsL]
  | x :: r, h => by
    have h1 := (h x (List.mem_cons_self ..)).tx
    have h2 := txs_le r fun e he => h e (List.mem_cons_of_mem _ he)
    show (nums x.tx ++ txsL r).length ≤ _
    rw [List.length_append, nums_length, List.length_cons, Nat.succ_mul]
    omega
theorem Great23.rev {es : List Evt} {v : Value} {w : World} (h : Great23 es) (hr : EvsR w.heap.size w v es) (hc : CapR v es.length) : REv w.heap.size es v w := by
  have h1 := txs_le es h.ev
  have h2 := h.len
  exact ⟨⟨hr, Nat.le_refl _, by omega, fun e he => by have := (h.ev e he).at_; omega, by omega, hc⟩, by omega, fun e he a ha => Nat.le_trans ((h.ev e he).av a ha) (by decide)⟩
def Gr23S (es : List Evt) (w w' : World) (r : Ending) : Prop := ∃ b, r = .returned (.bool b) ∧ (b = false → Great23 es) ∧ w = w'
set_option maxRecDepth 100000 in
set_option maxHeartbeats 8000000 in
theorem ref23_Great (B : Nat) (es : List Evt) (v : Value) (w : World) (hr : EvsR B w v es) (hB : B ≤ w.heap.size) (hn : es.length ≤ 140737488351232) (hz : ∀ e ∈ es, e.tx.size ≤ 140737488351232 ∧ e.n.1.size ≤ 140737488351232 ∧ e.n.2.size ≤ 140737488351232 ∧ e.at_.length ≤ 140737488351232 ∧ ∀ a ∈ e.at_, a.1.1.size ≤ 140737488351232 ∧ a.1.2.size ≤ 140737488351232 ∧ a.2.size ≤ 140737488351232) :
    Calls Try.prog 46 #[v] w fun r w' => Gr23S es w w' r := by
  obtain ⟨avs, ⟨a, cap, rfl, -⟩, -⟩ := id hr
  obtain ⟨n, hnn⟩ : ∃ n, es.length = n := ⟨_, rfl⟩
  have HN := Lib.hid hnn
  rw [hnn] at hr hn ⊢
  have HR := Lib.hid hr
  have HZ := Lib.hid hz
  clear hnn hr hz
  go_enter Try.func46, Try.ntmps46
  by_cases h300 : 300 < n
  · have hd := decide_eq_true (show (300 : Int) < (n : Int) by omega)
    go_wp2_with fail
    go_ret
    exact ⟨true, rfl, fun h => (by cases h), rfl⟩
  · have hd := decide_eq_false (show ¬ (300 : Int) < (n : Int) by omega)
    go_wp2_with fail
    clear hd
    go_loop [3] (fun i => ∃ j : Nat, i = .int .i64 j ∧ j ≤ n ∧ ∀ e ∈ es.take j, GE e) (fun i => n - (intOf i).toNat)
    case atStart => exact ⟨0, rfl, Nat.zero_le _, by simp⟩
    case round =>
      obtain ⟨j, rfl, hj, ha⟩ := hrel
      have HA := Lib.hid ha
      clear ha
      by_cases hlt : j < n
      · have hd := decide_eq_true (show (j : Int) < (n : Int) by omega)
        obtain ⟨x, hx⟩ : ∃ x, es[j]? = some x := ⟨_, List.getElem?_eq_getElem (by rw [HN.out]; exact hlt)⟩
        have htk : es.take (j + 1) = es.take j ++ [x] := by rw [List.take_add_one, hx]; rfl
        obtain ⟨z0, z1, z2, z3, z4⟩ := HZ.out x (List.mem_of_getElem? hx)
        obtain ⟨b, off, cap', av, hv, hbB, c0, c1, c2, c3, c4, hav⟩ := HR.out.get (Below.refl _ w) hB j x hx
        rw [HN.out] at hv
        cases hv
        obtain ⟨aa, ac, rfl, -⟩ := id hav
        have HAV := Lib.hid hav
        have HTK := Lib.hid htk
        have HZ4 := Lib.hid z4
        obtain ⟨m, hm⟩ : ∃ m, x.at_.length = m := ⟨_, rfl⟩
        have HM := Lib.hid hm
        rw [hm] at c3 z3
        obtain ⟨⟨n1, n2⟩, hnm⟩ : ∃ q, x.n = q := ⟨_, rfl⟩
        rw [hnm] at c1 c2 z1 z2
        have HNM := Lib.hid hnm
        clear hx hav htk z4 hm hnm
        simp only at c1 c2 z1 z2
        by_cases g1 : 2000 < x.tx.size
        · have e1 := decide_eq_true (show (2000 : Int) < (x.tx.size : Int) by omega)
          go_wp2_with fail
          go_ret
          exact ⟨true, rfl, fun h => (by cases h), rfl⟩
        · have e1 := decide_eq_false (show ¬ (2000 : Int) < (x.tx.size : Int) by omega)
          by_cases g2 : 30 < m
          · have e2 := decide_eq_true (show (30 : Int) < (m : Int) by omega)
            go_wp2_with fail
            go_ret
            exact ⟨true, rfl, fun h => (by cases h), rfl⟩
          · have e2 := decide_eq_false (show ¬ (30 : Int) < (m : Int) by omega)
            by_cases g3 : 300 < n1.size
            · have e3 := decide_eq_true (show (300 : Int) < (n1.size : Int) by omega)
              go_wp2_with fail
              go_ret
              exact ⟨true, rfl, fun h => (by cases h), rfl⟩
            · have e3 := decide_eq_false (show ¬ (300 : Int) < (n1.size : Int) by omega)
              by_cases g4 : 300 < n2.size
              · have e4 := decide_eq_true (show (300 : Int) < (n2.size : Int) by omega)
                go_wp2_with fail
                go_ret
                exact ⟨true, rfl, fun h => (by cases h), rfl⟩
              · have e4 := decide_eq_false (show ¬ (300 : Int) < (n2.size : Int) by omega)
                go_wp2_with fail
                clear e1 e2 e3 e4
                go_loop [4] (fun i => ∃ k : Nat, i = .int .i64 k ∧ k ≤ m ∧ ∀ y ∈ x.at_.take k, y.2.size ≤ 2000) (fun i => m - (intOf i).toNat)
                case atStart => exact ⟨0, rfl, Nat.zero_le _, by simp⟩
                case round =>
                  obtain ⟨k, rfl, hk, hy0⟩ := hrel
                  have HY := Lib.hid hy0
                  clear hy0
                  by_cases hkm : k < m
                  · have d1 := decide_eq_true (show (k : Int) < (m : Int) by omega)
                    obtain ⟨y, hy⟩ : ∃ y, x.at_[k]? = some y := ⟨_, List.getElem?_eq_getElem (by rw [HM.out]; exact hkm)⟩
                    obtain ⟨s0, s1, s2⟩ := HZ4.out y (List.mem_of_getElem? hy)
                    obtain ⟨b2, o2, cp2, hv2, p0, p1, p2⟩ := HAV.out.attr (Below.refl _ w) hB k y hy
                    cases hv2
                    have hty : x.at_.take (k + 1) = x.at_.take k ++ [y] := by rw [List.take_add_one, hy]; rfl
                    have HTY := Lib.hid hty
                    clear hy p0 p1 hty
                    by_cases g5 : 2000 < y.2.size
                    · have d2 := decide_eq_true (show (2000 : Int) < (y.2.size : Int) by omega)
                      go_wp2_with fail
                      go_ret
                      exact ⟨true, rfl, fun h => (by cases h), rfl⟩
                    · have d2 := decide_eq_false (show ¬ (2000 : Int) < (y.2.size : Int) by omega)
                      go_wp2_with fail
                      refine ⟨⟨k + 1, by go_num, by omega, fun u hu => ?_⟩, by simp [intOf]; omega⟩
                      rw [HTY.out] at hu
                      rcases List.mem_append.1 hu with hu | hu
                      · exact HY.out u hu
                      · rw [List.mem_singleton.1 hu]; omega
                  · have d1 := decide_eq_false (show ¬ (k : Int) < (m : Int) by omega)
                    go_wp2_with fail
                    refine ⟨⟨j + 1, by go_num, by omega, fun u hu => ?_⟩, by simp [intOf]; omega⟩
                    rw [HTK.out] at hu
                    rcases List.mem_append.1 hu with hu | hu
                    · exact HA.out u hu
                    · rw [List.mem_singleton.1 hu]
                      have hY := HY.out
                      rw [List.take_of_length_le (by rw [HM.out]; omega)] at hY
                      exact ⟨by omega, by rw [HM.out]; omega, by rw [HNM.out]; show n1.size ≤ 300; omega, by rw [HNM.out]; show n2.size ≤ 300; omega, hY⟩
      · have hd := decide_eq_false (show ¬ (j : Int) < (n : Int) by omega)
        have hjn : es.take j = es := List.take_of_length_le (by rw [HN.out]; omega)
        have HF := Lib.hid (by rw [← hjn]; exact HA.out : ∀ e ∈ es, GE e)
        clear hjn
        go_wp2_with fail
        go_ret
        exact ⟨false, rfl, fun _ => ⟨by rw [HN.out]; omega, HF.out⟩, rfl⟩
end Go.Proofs.Yteefopeclfojiaa
/- 
  Layer 23: the law RssField.
 -/
namespace Go.Proofs.Yteefopeclfojiaa
open Go.RowKit
theorem fld_size {es : List Evt} {n : NmT} {s : ByteArray} (ht : (txsL es).length ≤ 137438953472) (h : fldK es n = some s) : s.size ≤ 137438953472 := by
  obtain ⟨k, -, hk⟩ := List.exists_of_findSome?_eq_some h
  rw [(gd_nb hk).1]
  exact text_size es _ ht
/-- a field's text is not blank, or it is none; how long it is. -/
theorem fieldP_sz {es : List Evt} (ht : (txsL es).length ≤ 137438953472) (ns : List NmT) : fieldP es ns = (⟨#[]⟩, -1) ∨ ∃ j s, fieldP es ns = (s, ((j : Nat) : Int)) ∧ j < ns.length ∧ blankN (nums s) = false ∧ s.size ≤ 137438953472 := by
  rcases fieldF_ge (fldK es) ns 0 with ⟨h1, h2, -⟩ | ⟨j, s, h1, h2, n, -, h4⟩
  · left
    unfold fieldP
    rw [← h1, ← h2]
  · right
    exact ⟨j, s, by unfold fieldP; rw [h1, Nat.zero_add], h2, fld_nb h4, fld_size ht h4⟩
set_option maxRecDepth 100000 in
set_option maxHeartbeats 8000000 in
theorem law_RssField (v : Value) (es : List Evt) (av : Value) (ms : List NmT) (bv : Value) (ks : List NmT) (w : World) (hl : EvsIn w v es) (hA : NsR w av ms) (hB : NsR w bv ks) :
    Calls Try.prog 14 #[v, av, bv] w fun r w' => r = .returned (.bool true) ∧ Below w.heap.size w w' := by
  obtain ⟨avs, ⟨a, cap, rfl, -⟩, -⟩ := id hl.r
  obtain ⟨aa, ac, rfl⟩ := hA.form
  obtain ⟨ba, bc, rfl⟩ := hB.form
  have G1 := Lib.hid (ref23_Great w.heap.size es _ w hl.r (Nat.le_refl _) hl.at_.n hl.small)
  have HW := Lib.hid law23_wakes
  have HL := Lib.hid hl
  obtain ⟨na, hna⟩ : ∃ n, ms.length = n := ⟨_, rfl⟩
  obtain ⟨nb, hnb⟩ : ∃ n, ks.length = n := ⟨_, rfl⟩
  obtain ⟨nn, hnn⟩ : ∃ n, es.length = n := ⟨_, rfl⟩
  rw [hna] at hA ⊢
  rw [hnb] at hB ⊢
  rw [hnn] at HL G1 ⊢
  have HA := Lib.hid hA
  have HB := Lib.hid hB
  have HNA := Lib.hid hna
  have HNB := Lib.hid hnb
  clear hl hA hB hna hnb hnn
  go_enter Try.func14, Try.ntmps14
  go_wp2_with fail
  refine (G1.out).mono ?_
  rintro r w1 ⟨b1, rfl, hg1, rfl⟩
  cases b1 with
  | true =>
    clear hg1
    go_wp2_with fail
    refine (HW.out _).mono ?_
    rintro r w9 ⟨rfl, hb9⟩
    go_wp2_with fail
    go_ret
    exact ⟨rfl, hb9⟩
  | false =>
    have hE := (hg1 rfl).rev HL.out.r HL.out.cap
    have HE := Lib.hid hE
    clear hg1 hE G1
    by_cases h20 : 20 < na
    · have hd := decide_eq_true (show (20 : Int) < (na : Int) by omega)
      go_wp2_with fail
      refine (HW.out _).mono ?_
      rintro r w9 ⟨rfl, hb9⟩
      go_wp2_with fail
      go_ret
      exact ⟨rfl, hb9⟩
    · have hd := decide_eq_false (show ¬ (20 : Int) < (na : Int) by omega)
      by_cases h21 : 20 < nb
      · have hd2 := decide_eq_true (show (20 : Int) < (nb : Int) by omega)
        go_wp2_with fail
        refine (HW.out _).mono ?_
        rintro r w9 ⟨rfl, hb9⟩
        go_wp2_with fail
        go_ret
        exact ⟨rfl, hb9⟩
      · have hd2 := decide_eq_false (show ¬ (20 : Int) < (nb : Int) by omega)
        have HF1 := Lib.hid (rss_Field w.heap.size es _ ms _ w HE.out HA.out (by rw [HNA.out]; omega))
        have HPA := Lib.hid (fieldP_app es ms ks)
        have HSA := Lib.hid (fieldP_sz HE.out.t ms)
        have HSB := Lib.hid (fieldP_sz HE.out.t ks)
        obtain ⟨RA, hRA⟩ : ∃ R, fieldP es ms = R := ⟨_, rfl⟩
        obtain ⟨RB, hRB⟩ : ∃ R, fieldP es ks = R := ⟨_, rfl⟩
        rw [hRA] at HF1 HPA HSA
        rw [hRB] at HPA HSB
        have HRB := Lib.hid hRB
        clear hRA hRB
        go_wp2_with fail
        refine (HF1.out).mono ?_
        rintro r w2 ⟨rfl, hb2⟩
        have hF2 := rss_Field w.heap.size es _ ks _ w2 (HE.out.below hb2) (HB.out.below hb2) (by rw [HNB.out]; omega)
        rw [HRB.out] at hF2
        have HF2 := Lib.hid hF2
        clear HF1 hF2 HRB
        go_wp2_with fail
        refine (HF2.out).mono ?_
        rintro r w3 ⟨rfl, hb23⟩
        have hb3 := bt hb2 hb23
        have O0 := OwnN.lit (w := w3) (ns := []) #[] rfl 0 rfl (by decide)
        have h4 : Below w3.heap.size w3 (w3.alloc (.cells #[] 24)) := (Below.refl _ w3).alloc (Nat.le_refl _) _
        have hb4 := bt hb3 h4
        obtain ⟨a1, c1, w5, hr1, O1, hb45⟩ := O0.app (HA.out.below hb4) h4.size (by rw [HNA.out]; simp; omega)
        rw [List.nil_append, HNA.out] at hr1
        rw [List.nil_append, HNA.out] at O1
        have hb5 := hb4.trans (hb45.mono (Nat.le_trans hb3.size (Nat.le_refl _)))
        have h35 := h4.trans hb45
        obtain ⟨a2, c2, w6, hr2, O2, hb56⟩ := O1.app (HB.out.below hb5) h35.size (by rw [HNA.out, HNB.out]; omega)
        have hab : (ms ++ ks).length = na + nb := by rw [List.length_append, HNA.out, HNB.out]
        rw [hab] at hr2 O2
        have hb6 := hb5.trans (hb56.mono hb3.size)
        have hF3 := rss_Field w.heap.size es _ (ms ++ ks) _ w6 (HE.out.below hb6) O2.reads (by rw [hab]; omega)
        rw [HPA.out] at hF3
        have HF3 := Lib.hid hF3
        have HR1 := Lib.hid hr1
        have HR2 := Lib.hid hr2
        have HB6 := Lib.hid hb6
        clear HF2 hF3 hr1 hr2 O0 O1 O2 h4 hb4 hb45 hb5 h35 hb56 hb6 hab hb3 hb2 hb23 HPA HA HB
        rcases HSA.out with rfl | ⟨j, s, rfl, hj, hbl, hsz⟩
        · rw [if_pos (show ((⟨#[]⟩, -1) : ByteArray × Int).2 < 0 by decide)] at HF3
          rcases HSB.out with rfl | ⟨k, t, rfl, hk, -, hsz⟩
          · rw [if_pos (show ((⟨#[]⟩, -1) : ByteArray × Int).2 < 0 by decide)] at HF3
            clear HSA HSB
            simp only at HF3 ⊢
            go_wp2_with (first
              | (at_builtin; refine wpList_append_run rfl _ _ _ _ rfl _ _ rfl rfl _ _ HR1.out ?_; clear HR1)
              | (at_builtin; refine wpList_append_run rfl _ _ _ _ rfl _ _ rfl rfl _ _ HR2.out ?_; clear HR2))
            refine (HF3.out).mono ?_
            rintro r w7 ⟨rfl, hb7⟩
            have hb7 := bt HB6.out hb7
            go_wp2_with fail
            refine (HW.out _).mono ?_
            rintro r w9 ⟨rfl, hb9⟩
            go_wp2_with fail
            go_ret
            exact ⟨rfl, bt hb7 hb9⟩
          · rw [if_neg (show ¬ ((t, (k : Int)) : ByteArray × Int).2 < 0 by show ¬ (k : Int) < 0; omega)] at HF3
            rw [HNB.out] at hk
            rw [HNA.out] at HF3
            clear HSA HSB
            simp only at HF3 ⊢
            rw [Int.add_comm] at HF3
            have t0 := toL_self t
            go_wp2_with (first
              | (at_builtin; refine wpList_append_run rfl _ _ _ _ rfl _ _ rfl rfl _ _ HR1.out ?_; clear HR1)
              | (at_builtin; refine wpList_append_run rfl _ _ _ _ rfl _ _ rfl rfl _ _ HR2.out ?_; clear HR2))
            refine (HF3.out).mono ?_
            rintro r w7 ⟨rfl, hb7⟩
            have hb7 := bt HB6.out hb7
            have e0 := decide_eq_true (show (0 : Int) ≤ (k : Int) by omega)
            go_wp2_with fail
            refine (HW.out _).mono ?_
            rintro r w9 ⟨rfl, hb9⟩
            go_wp2_with fail
            go_ret
            exact ⟨rfl, bt hb7 hb9⟩
        · rw [if_neg (show ¬ ((s, (j : Int)) : ByteArray × Int).2 < 0 by show ¬ (j : Int) < 0; omega)] at HF3
          rw [HNA.out] at hj
          clear HSA HSB
          obtain ⟨rb1, rb2⟩ := RB
          simp only at HF3 ⊢
          have t0 := toL_self s
          go_wp2_with (first
            | (at_builtin; refine wpList_append_run rfl _ _ _ _ rfl _ _ rfl rfl _ _ HR1.out ?_; clear HR1)
            | (at_builtin; refine wpList_append_run rfl _ _ _ _ rfl _ _ rfl rfl _ _ HR2.out ?_; clear HR2))
          refine (HF3.out).mono ?_
          rintro r w7 ⟨rfl, hb7⟩
          have hb7 := bt HB6.out hb7
          have e0 := decide_eq_true (show (0 : Int) ≤ (j : Int) by omega)
          have e1 := decide_eq_true (show (j : Int) < (na : Int) by omega)
          go_wp2_with fail
          refine (ref09_Blank s w7 hsz).mono ?_
          rintro r w8 ⟨rfl, rfl⟩
          rw [hbl]
          go_wp2_with fail
          refine (HW.out _).mono ?_
          rintro r w9 ⟨rfl, hb9⟩
          go_wp2_with fail
          go_ret
          exact ⟨rfl, bt hb7 hb9⟩
end Go.Proofs.Yteefopeclfojiaa
/- 
  Layer 23 in plain terms: how many items there are, what an item's date and title are.
 -/
namespace Go.Proofs.Yteefopeclfojiaa
open Go.RowKit
/-- does an event begin an element whose local name is item? -/
def itB (e : Evt) : Bool := decide (e.k = 0) && (e.n.2.toList == [105, 116, 101, 109])
def cntI (l : List Evt) : Nat := (l.filter itB).length
theorem cntI_app (a b : List Evt) : cntI (a ++ b) = cntI a + cntI b := by unfold cntI; rw [List.filter_append, List.length_append]
theorem cntI_cons (e : Evt) (l : List Evt) : cntI (e :: l) = (if itB e then 1 else 0) + cntI l := by
  unfold cntI
  rw [List.filter_cons]
  split <;> simp [Nat.add_comm]
theorem cntI_le (l : List Evt) : cntI l ≤ l.length := List.length_filter_le _ _
theorem itN_l : itN.2.toList = [105, 116, 101, 109] := by rw [ByteArray.toList_eq]; rfl
theorem itB_named {n : NmT} {a : List AtT} (h : namedB n itN = true) : itB (evS n a) = true := by
  unfold namedB at h
  rw [Bool.and_eq_true] at h
  have h1 := h.1
  rw [itN_l] at h1
  unfold itB evS
  simp only [decide_true, Bool.true_and]
  exact h1
theorem namT_nil (nm : NmT) : namT .nil nm = [] := rfl
theorem namT_txt (t : ByteArray) (r : Fo) (nm : NmT) : namT (.txt t r) nm = namT r nm := rfl
theorem namT_elt (n : NmT) (a : List AtT) (ks r : Fo) (nm : NmT) : (namT (.elt n a ks r) nm).length = (if namedB n nm then 1 else 0) + (namT r nm).length := by
  unfold namT
  rw [Fo.kids, List.filter_cons]
  split <;> simp [Nat.add_comm]
theorem cnt_elt (n : NmT) (a : List AtT) (ks r : Fo) : (if namedB n itN then 1 else 0) + cntI ks.fl + cntI r.fl ≤ cntI (Fo.elt n a ks r).fl := by
  rw [Fo.fl, cntI_cons, cntI_app, cntI_cons]
  by_cases h : namedB n itN = true
  · rw [if_pos h, if_pos (itB_named h)]
    omega
  · rw [if_neg h]
    omega
theorem cnt_nam : ∀ F : Fo, (namT F itN).length ≤ cntI F.fl
  | .nil => by rw [namT_nil]; exact Nat.zero_le _
  | .txt t r => by
    rw [namT_txt, Fo.fl, cntI_cons]
    have := cnt_nam r
    omega
  | .elt n a ks r => by
    rw [namT_elt]
    have h1 := cnt_nam r
    have h2 := cnt_elt n a ks r
    omega
theorem cnt_two : ∀ (F : Fo) (C : KidT), C ∈ F.kids → (namT F itN).length + (namT C.2.2 itN).length ≤ cntI F.fl
  | .nil, C, h => by simp [Fo.kids] at h
  | .txt t r, C, h => by
    rw [namT_txt, Fo.fl, cntI_cons]
    have := cnt_two r C h
    omega
  | .elt n a ks r, C, h => by
    rw [namT_elt]
    have h2 := cnt_elt n a ks r
    rcases List.mem_cons.1 h with rfl | h
    · have h3 := cnt_nam ks
      have h4 := cnt_nam r
      simp only
      omega
    · have h3 := cnt_two r C h
      omega
theorem head_mem {α : Type} {l : List α} {x : α} (h : l.head? = some x) : x ∈ l := by
  cases l with
  | nil => cases h
  | cons y r => simp at h; subst h; exact List.mem_cons_self ..
/-- there are no more items than elements of that name. -/
theorem feedR_cnt (es : List Evt) : (feedR es).items.length ≤ cntI es := by
  cases hG : growP es with
  | none =>
    rw [feedR_none (kindP_none hG)]
    exact Nat.zero_le _
  | some g =>
    obtain ⟨T, hes, hwf, hT⟩ := whole_tree hG
    rw [(feed_T hG hT hwf).1]
    have hc : cntI T.2.2.fl ≤ cntI es := by
      rw [hes]
      unfold flT
      rw [cntI_cons, cntI_app]
      omega
    refine Nat.le_trans ?_ hc
    unfold feedT
    by_cases h0 : kindR T.1 = 0
    · rw [if_pos h0]
      exact Nat.zero_le _
    · rw [if_neg h0]
      simp only [List.length_append]
      cases hh : (namT T.2.2 chanN).head? with
      | none =>
        simp only [List.length_nil]
        unfold itemsT
        rw [List.length_map]
        have := cnt_nam T.2.2
        omega
      | some C =>
        simp only
        have hC : C ∈ T.2.2.kids := (List.mem_filter.1 (head_mem hh)).1
        have h2 := cnt_two T.2.2 C hC
        split
        · unfold itemsT
          rw [List.length_map, List.length_map]
          omega
        · unfold itemsT
          rw [List.length_map]
          simp only [List.length_nil]
          omega
/-- a text that is there is not blank. -/
def TxOk (s : ByteArray) : Prop := s = ⟨#[]⟩ ∨ (blankN (nums s) = false ∧ s.size ≤ 137438953472 ∧ (s.toList == []) = false)
structure ItOk (x : Itm) : Prop where
  d : TxOk x.date
  t : TxOk x.title
  k : (x.date = ⟨#[]⟩ ∧ x.kind = 0) ∨ ((x.date.toList == []) = false ∧ (x.kind = 1 ∨ x.kind = 3))
theorem nb_ne {s : ByteArray} (h : blankN (nums s) = false) : (s.toList == []) = false := by
  cases hs : s.toList == [] with
  | false => rfl
  | true =>
    rw [beq_iff_eq, ByteArray.toList_eq] at hs
    have h2 : nums s = [] := by unfold nums; rw [hs]; rfl
    rw [h2] at h
    cases h
/-- what a field is: none, or a text that is not blank. -/
def FdOk (f : List NmT → ByteArray × Int) : Prop := ∀ ns, f ns = (⟨#[]⟩, -1) ∨ ∃ j s, f ns = (s, ((j : Nat) : Int)) ∧ j < ns.length ∧ blankN (nums s) = false ∧ s.size ≤ 137438953472
theorem FdOk.tx {f : List NmT → ByteArray × Int} (h : FdOk f) (ns : List NmT) : TxOk (f ns).1 := by
  rcases h ns with h | ⟨j, s, h, -, h2, h3⟩
  · rw [h]; exact .inl rfl
  · rw [h]; exact .inr ⟨h2, h3, nb_ne h2⟩
theorem FdOk.it {f : List NmT → ByteArray × Int} (h : FdOk f) (a : Option ByteArray) (F : FormT) : ItOk (foundF f a F) := by
  refine ⟨h.tx _, h.tx _, ?_⟩
  unfold foundF
  rcases h F.date with h | ⟨j, s, h, -, h2, h3⟩
  · left
    simp only [h]
    exact ⟨trivial, rfl⟩
  · right
    simp only [h]
    refine ⟨nb_ne h2, ?_⟩
    unfold kindD
    rw [if_neg (by omega)]
    split
    · exact .inr rfl
    · exact .inl rfl
theorem txs_part (es : List Evt) (k : Nat) : (txsL (partP es k)).length ≤ (txsL es).length := by
  unfold partP
  cases h : (growP es).bind fun g => endO g k with
  | none => exact Nat.zero_le _
  | some j =>
    simp only
    refine Nat.le_trans (txsL_le _ _) ?_
    have h2 : txsL es = txsL (es.take k) ++ txsL (es.drop k) := by rw [← txsL_append, List.take_append_drop]
    rw [h2, List.length_append]
    omega
theorem found_ok {es : List Evt} (ht : (txsL es).length ≤ 137438953472) (k : Nat) (F : FormT) : ItOk (foundP (partP es k) F) := by
  unfold foundP
  exact FdOk.it (fun ns => fieldP_sz (Nat.le_trans (txs_part es k) ht) ns) _ _
theorem none_ok : ItOk Itm.none := ⟨.inl rfl, .inl rfl, .inl ⟨rfl, rfl⟩⟩
theorem items_ok {es : List Evt} (ht : (txsL es).length ≤ 137438953472) (i : Nat) (f : Int) : ∀ x ∈ itemsP es i f, ItOk x := by
  intro x hx
  unfold itemsP at hx
  obtain ⟨k, -, rfl⟩ := List.mem_map.1 hx
  exact found_ok ht k _
/-- each item of a feed, its head too: the date's grammar is there just with a date; nothing is blank. -/
theorem feedR_ok {es : List Evt} (ht : (txsL es).length ≤ 137438953472) : ∀ x ∈ (feedR es).head :: (feedR es).items, ItOk x := by
  unfold feedR
  by_cases h0 : kindP es = 0
  · rw [if_pos h0]
    intro x hx
    simp [rawNone] at hx
    rw [hx]
    exact none_ok
  · rw [if_neg h0]
    simp only
    cases hh : (namedR es 0 chanN).head? with
    | none =>
      simp only [List.nil_append]
      intro x hx
      rcases List.mem_cons.1 hx with rfl | hx
      · exact none_ok
      · exact items_ok ht 0 _ x hx
    | some c =>
      simp only
      intro x hx
      rcases List.mem_cons.1 hx with rfl | hx
      · exact found_ok ht c _
      · rcases List.mem_append.1 hx with hx | hx
        · split at hx
          · exact items_ok ht c _ x hx
          · cases hx
        · exact items_ok ht 0 _ x hx
theorem kindP_or (es : List Evt) : kindP es = 0 ∨ kindP es = 1 ∨ kindP es = 2 := by
  unfold kindP
  split
  · cases es[0]? with
    | none => exact .inl rfl
    | some e => exact kindR_or e.n
  · exact .inl rfl
theorem feedR_fmt {es : List Evt} (h : kindP es ≠ 0) : (feedR es).fmt = kindP es := by
  unfold feedR
  rw [if_neg h]
end Go.Proofs.Yteefopeclfojiaa
/- 
  Layer 23: the law RssItems.
 -/
namespace Go.Proofs.Yteefopeclfojiaa
open Go.RowKit
theorem itsC_one (l : List Itm) : ∀ u ∈ itsC l, u.oneCell' = true := by
  intro u hu
  unfold itsC at hu
  obtain ⟨x, -, h⟩ := List.mem_flatMap.1 hu
  exact itC_one x u h
theorem OwnX.lit {w : World} {l : List Itm} (C : Array Value) (hC : C.toList = itsC l) (n : Nat) (hn : l.length = n) (hm : n ≤ 1000000) :
    OwnX w.heap.size (w.alloc (.cells C 47)) (.slice (some ⟨w.heap.size, 0, none⟩) n n) l := by
  have hl := itsC_len l
  subst hn
  refine ⟨hl, .inr ⟨w.heap.size, l.length, C, rfl, Nat.le_refl _, heap_alloc_new w _, Nat.le_refl _, by unfold maxLen; omega, ?_, ?_⟩⟩
  · rw [← Array.length_toList, hC, hl]
  · rw [hC, List.take_of_length_le (by omega)]
set_option maxRecDepth 100000 in
/-- 'append(a, b...)'. -/
theorem OwnX.apps {base : Nat} {w : World} {v u : Value} {l m : List Itm} (h : OwnX base w v l) (k : CReads w.heap.size w u m.length (itsC m)) (hbase : base ≤ w.heap.size) (hn : l.length + m.length ≤ 1000000) :
    ∃ a c w', (Builtin.append_ #[48, 48] 48 #[v, u]).run Try.prog w = .ok (.slice a (l ++ m).length c) w' ∧ OwnX base w' (.slice a (l ++ m).length c) (l ++ m) ∧ Below base w w' := by
  obtain ⟨i0, hi, hz0, hz1, hz2⟩ := info_parts infoItm
  obtain ⟨a, c, rfl, hc⟩ := k
  cases a with
  | none =>
    have hms : m = [] := by
      cases m with
      | nil => rfl
      | cons x r =>
        obtain ⟨b, off, hh, -⟩ := hc 0 (.string x.id) rfl
        cases hh
    subst hms
    obtain ⟨x, y, rfl, -⟩ : ∃ x y, v = .slice x l.length y ∧ True := by
      obtain ⟨x, y, h5, -⟩ := CReads.of_own h
      exact ⟨x, y, h5, trivial⟩
    have hlc : l.length ≤ y := by
      obtain ⟨a', c', h5, h6, -⟩ := own_capR h
      injection h5 with h7 h8 h9
      omega
    refine ⟨x, y, w, ?_, ?_, Below.refl _ _⟩
    · rw [List.append_nil]
      exact run_append_nothing w _ _ _ _ i0 Try.underlying48 hi x l.length y hlc _ ⟨.inl ⟨_, Try.underlying48⟩, fun _ => rfl, rfl, rfl, by simp, by simp⟩
    · rw [List.append_nil]
      exact h
  | some ad =>
    obtain ⟨v', w', hrun, k1, k2, _⟩ := run_append_own (P := Try.prog) w base 48 48 47 i0 _ 7 104 Try.underlying48 hi hz0 hz1 hz2 rfl (by decide) v l.length _ h ad m.length c (itsC m) (itsC_len m)
      (fun j u hj => by
        obtain ⟨b, off, hbb, _, hcc⟩ := hc j u hj
        injection hbb with hbb
        subst hbb
        rw [show (⟨b, off, none⟩ : Addr).add j = ⟨b, off + j, none⟩ by unfold Addr.add; split <;> simp_all]
        exact hcc)
      (itsC_one m) (by unfold maxLen; omega) (by omega) hbase
    rw [← itsC_app, ← List.length_append] at k1
    obtain ⟨a', c', h5, -⟩ := CReads.of_own (show OwnX base w' v' (l ++ m) from k1)
    subst h5
    exact ⟨a', c', w', hrun, k1, ownBelow h k2 (Nat.le_refl _) hbase⟩
theorem cntI_snoc {es : List Evt} {k : Nat} {x : Evt} (h : es[k]? = some x) : cntI (es.take (k + 1)) = cntI (es.take k) + if itB x then 1 else 0 := by
  rw [List.take_add_one, h]
  show cntI (es.take k ++ [x]) = _
  rw [cntI_app, cntI_cons]
  rfl
set_option maxRecDepth 100000 in
set_option maxHeartbeats 8000000 in
theorem law_RssItems (v : Value) (es : List Evt) (w : World) (hl : EvsIn w v es) :
    Calls Try.prog 13 #[v] w fun r w' => r = .returned (.bool true) ∧ Below w.heap.size w w' := by
  obtain ⟨avs, ⟨a, cap, rfl, -⟩, -⟩ := id hl.r
  have G1 := Lib.hid (ref23_Great w.heap.size es _ w hl.r (Nat.le_refl _) hl.at_.n hl.small)
  have HW := Lib.hid law23_wakes
  have HL := Lib.hid hl
  obtain ⟨nn, hnn⟩ : ∃ n, es.length = n := ⟨_, rfl⟩
  rw [hnn] at HL G1 ⊢
  have HNN := Lib.hid hnn
  clear hl hnn
  go_enter Try.func13, Try.ntmps13
  go_wp2_with fail
  refine (G1.out).mono ?_
  rintro r w1 ⟨b1, rfl, hg1, rfl⟩
  cases b1 with
  | true =>
    clear hg1
    go_wp2_with fail
    refine (HW.out _).mono ?_
    rintro r w9 ⟨rfl, hb9⟩
    go_wp2_with fail
    go_ret
    exact ⟨rfl, hb9⟩
  | false =>
    have HE := Lib.hid ((hg1 rfl).rev HL.out.r HL.out.cap)
    have HN3 := Lib.hid (show nn ≤ 300 by rw [← HNN.out]; exact (hg1 rfl).len)
    clear hg1 G1
    have HP := Lib.hid (rss_Parse w.heap.size es _ w HE.out)
    by_cases hk : kindP es = 0
    · have HK := Lib.hid (show (if kindP es = 0 then (43 : Int) else 0) = 43 from if_pos hk)
      have HF := Lib.hid (feedR_none hk)
      clear hk
      go_wp2_with fail
      refine HP.out.mono ?_
      rintro r w2 ⟨u2, rfl, hraw2, hb2⟩
      rw [HK.out]
      rw [HF.out] at hraw2
      obtain ⟨v2, rfl, ho2⟩ := hraw2
      obtain ⟨pa, ca, hv2, -⟩ := CReads.of_own ho2
      subst hv2
      unfold rawC rawNone
      simp only [List.length_nil]
      go_wp2_with fail
      have hb3 := hb2.alloc hb2.size (.cells #[.int .i8 0, .string Itm.none.id, .string Itm.none.title, .string Itm.none.link, .string Itm.none.author, .string Itm.none.content, .string Itm.none.date, .int .i8 Itm.none.kind, .slice pa 0 ca] 50)
      refine (HW.out _).mono ?_
      rintro r w9 ⟨rfl, hb9⟩
      go_wp2_with fail
      go_ret
      exact ⟨rfl, bt hb3 hb9⟩
    · have HK := Lib.hid (show (if kindP es = 0 then (43 : Int) else 0) = 0 from if_neg hk)
      have HOK := Lib.hid (feedR_ok HE.out.t)
      have HC := Lib.hid (feedR_cnt es)
      have HFM := Lib.hid (feedR_fmt hk)
      have HKO := Lib.hid ((kindP_or es).resolve_left hk)
      clear hk
      go_wp2_with fail
      refine HP.out.mono ?_
      rintro r w2 ⟨u2, rfl, hraw2, hb2⟩
      rw [HK.out]
      obtain ⟨R, hR⟩ : ∃ R, feedR es = R := ⟨_, rfl⟩
      rw [hR] at hraw2 HOK HC HFM
      clear hR HP HK
      obtain ⟨v2, rfl, ho2⟩ := hraw2
      have CX := CReads.of_own ho2
      obtain ⟨pa, ca, hv2, -⟩ := id CX
      subst hv2
      obtain ⟨F, H, L⟩ := R
      simp only at HFM HOK HC CX ⊢
      clear ho2
      obtain ⟨i1, i2, i3, i4, i5, i6, i7⟩ := H
      unfold rawC
      simp only
      have hLn : L.length ≤ 300 := by
        have h1 := HC.out
        have h2 := cntI_le es
        have h3 := HN3.out
        have h4 := HNN.out
        omega
      obtain ⟨m, hm⟩ : ∃ m, L.length = m := ⟨_, rfl⟩
      rw [hm] at hLn ⊢
      have HM := Lib.hid hm
      have B1 := RowAt.new w2 #[.int .i8 F, .string i1, .string i2, .string i3, .string i4, .string i5, .string i6, .int .i8 i7, .slice pa m ca] 50
      have hb3 := hb2.alloc hb2.size (.cells #[.int .i8 F, .string i1, .string i2, .string i3, .string i4, .string i5, .string i6, .int .i8 i7, .slice pa m ca] 50)
      have hba : Below w2.heap.size w2 (w2.alloc (.cells #[.int .i8 F, .string i1, .string i2, .string i3, .string i4, .string i5, .string i6, .int .i8 i7, .slice pa m ca] 50)) := (Below.refl _ w2).alloc (Nat.le_refl _) _
      replace CX := (CX.below hba (Nat.le_refl _)).mono hba.size
      clear hm
      go_wp2_with fail
      generalize w2.alloc (.cells #[.int .i8 F, .string i1, .string i2, .string i3, .string i4, .string i5, .string i6, .int .i8 i7, .slice pa m ca] 50) = w3 at B1 hb3 CX ⊢
      generalize w2.heap.size = g1 at B1 ⊢
      clear hba hb2
      have HB1 := Lib.hid B1
      have HCX := Lib.hid CX
      have HB3 := Lib.hid hb3
      clear B1 CX hb3
      go_loopw [5, 34] (fun c i wr => ∃ k : Nat, i = .int .i64 k ∧ c = .int .i64 (cntI (es.take k) : Nat) ∧ k ≤ nn ∧ Below w3.heap.size w3 wr) (fun _ i _ => nn - (intOf i).toNat)
      case atStart => exact ⟨0, rfl, rfl, Nat.zero_le _, Below.refl _ _⟩
      case round =>
        obtain ⟨k, rfl, rfl, hk, hbl⟩ := hrel
        have hn3 := HN3.out
        by_cases hlt : k < nn
        · have hd := decide_eq_true (show (k : Int) < (nn : Int) by omega)
          have hbw := HB3.out.trans (hbl.mono HB3.out.size)
          obtain ⟨x, hx⟩ : ∃ x, es[k]? = some x := ⟨_, List.getElem?_eq_getElem (by rw [HNN.out]; exact hlt)⟩
          obtain ⟨b, off, cap', av, hv, hbB, c0, c1, c2, c3, c4, hav⟩ := HE.out.f.r.get hbw (Nat.le_refl _) k x hx
          rw [HNN.out] at hv
          cases hv
          obtain ⟨aa, ac, rfl, -⟩ := hav
          have hsn := cntI_snoc hx
          have hcl : cntI (es.take k) ≤ 300 := by
            have h1 := cntI_le (es.take k)
            rw [List.length_take] at h1
            have := HN3.out
            omega
          obtain ⟨xk, ⟨n1, n2⟩, xa, xt⟩ := x
          simp only at c0 c1 c2 c3 c4
          have HBL := Lib.hid hbl
          clear hx hbl hbw
          by_cases hk0 : xk = 0
          · subst hk0
            cases hnm : (n2.toList == [105, 116, 101, 109]) with
            | true =>
              have hi : itB ⟨0, (n1, n2), xa, xt⟩ = true := by unfold itB; simp only [decide_true, Bool.true_and]; exact hnm
              rw [hi, if_pos rfl] at hsn
              have HSN := Lib.hid hsn
              obtain ⟨N, hN⟩ : ∃ N, cntI (es.take k) = N := ⟨_, rfl⟩
              rw [hN] at hcl HSN ⊢
              clear hsn hi hN
              go_wp2_with fail
              refine ⟨⟨k + 1, by go_num, by rw [HSN.out]; go_num, by omega, ?_⟩, by simp [intOf]; omega⟩
              exact HBL.out.alloc HBL.out.size _
            | false =>
              have hi : itB ⟨0, (n1, n2), xa, xt⟩ = false := by unfold itB; simp only [decide_true, Bool.true_and]; exact hnm
              rw [hi, if_neg Bool.false_ne_true] at hsn
              have HSN := Lib.hid hsn
              obtain ⟨N, hN⟩ : ∃ N, cntI (es.take k) = N := ⟨_, rfl⟩
              rw [hN] at hcl HSN ⊢
              clear hsn hi hN
              go_wp2_with fail
              refine ⟨⟨k + 1, by go_num, by rw [HSN.out]; rfl, by omega, ?_⟩, by simp [intOf]; omega⟩
              exact HBL.out.alloc HBL.out.size _
          · have q0 : (xk == 0) = false := by simpa using hk0
            have hi : itB ⟨xk, (n1, n2), xa, xt⟩ = false := by unfold itB; simp [hk0]
            rw [hi, if_neg Bool.false_ne_true] at hsn
            have HSN := Lib.hid hsn
            obtain ⟨N, hN⟩ : ∃ N, cntI (es.take k) = N := ⟨_, rfl⟩
            rw [hN] at hcl HSN ⊢
            clear hsn hi hN hk0
            go_wp2_with fail
            refine ⟨⟨k + 1, by go_num, by rw [HSN.out]; rfl, by omega, ?_⟩, by simp [intOf]; omega⟩
            exact HBL.out.alloc HBL.out.size _
        · have hd := decide_eq_false (show ¬ (k : Int) < (nn : Int) by omega)
          have hcn : cntI (es.take k) = cntI es := by rw [List.take_of_length_le (by rw [HNN.out]; omega)]
          rw [hcn]
          have hCN : cntI es ≤ 300 := by
            have h2 := cntI_le es
            have h3 := HN3.out
            have h4 := HNN.out
            omega
          have hmc : m ≤ cntI es := by rw [← HM.out]; exact HC.out
          obtain ⟨N, hN⟩ : ∃ N, cntI es = N := ⟨_, rfl⟩
          rw [hN] at hCN hmc ⊢
          have hB2 := HB1.out.below hbl HB1.out.lt
          have hCX2 := (HCX.out.below hbl (Nat.le_refl _)).mono hbl.size
          have hbw := HB3.out.trans (hbl.mono HB3.out.size)
          clear hN hcn HCX HB1 HB3 HE HL hbl HC
          have O0 := OwnX.lit (w := wr) (l := [⟨i1, i2, i3, i4, i5, i6, i7⟩]) #[.string i1, .string i2, .string i3, .string i4, .string i5, .string i6, .int .i8 i7] rfl 1 rfl (by decide)
          have h4 : Below wr.heap.size wr (wr.alloc (.cells #[.string i1, .string i2, .string i3, .string i4, .string i5, .string i6, .int .i8 i7] 47)) := (Below.refl _ wr).alloc (Nat.le_refl _) _
          obtain ⟨a5, c5, w5, hr5, O5, hb45⟩ := O0.apps ((hCX2.below h4 (Nat.le_refl _)).mono h4.size) h4.size (by rw [HM.out]; simp; omega)
          have hlen : ([(⟨i1, i2, i3, i4, i5, i6, i7⟩ : Itm)] ++ L).length = m + 1 := by rw [List.length_append, HM.out]; simp; omega
          rw [hlen, HM.out] at hr5
          rw [hlen] at O5
          have h5 := h4.trans hb45
          have hB5 := hB2.below h5 hB2.lt
          have CY := CReads.of_own O5
          have hBb := hB2.below h4 hB2.lt
          have r1 : wr.cell? ⟨g1, 1, none⟩ = some (.string i1) := hB2.blk.cell 1 rfl
          have r2 : wr.cell? ⟨g1, 2, none⟩ = some (.string i2) := hB2.blk.cell 2 rfl
          have r3 : wr.cell? ⟨g1, 3, none⟩ = some (.string i3) := hB2.blk.cell 3 rfl
          have r4 : wr.cell? ⟨g1, 4, none⟩ = some (.string i4) := hB2.blk.cell 4 rfl
          have r5 : wr.cell? ⟨g1, 5, none⟩ = some (.string i5) := hB2.blk.cell 5 rfl
          have r6 : wr.cell? ⟨g1, 6, none⟩ = some (.string i6) := hB2.blk.cell 6 rfl
          have r7 : wr.cell? ⟨g1, 7, none⟩ = some (.int .i8 i7) := hB2.blk.cell 7 rfl
          have r8 : (wr.alloc (.cells #[.string i1, .string i2, .string i3, .string i4, .string i5, .string i6, .int .i8 i7] 47)).cell? ⟨g1, 8, none⟩ = some (.slice pa m ca) := hBb.blk.cell 8 rfl
          have HR5 := Lib.hid hr5
          have HB5 := Lib.hid hB5
          have HCY := Lib.hid CY
          have HBW := Lib.hid (bt hbw h5)
          clear hr5 hB5 CY h5 hBb O0 O5 hb45 h4 hB2 hCX2 hbw hlen
          go_wp2_with (at_builtin; refine wpList_append_run rfl _ _ _ _ rfl _ _ rfl rfl _ _ HR5.out ?_)
          clear r1 r2 r3 r4 r5 r6 r7 r8 HR5
          obtain ⟨A, hA⟩ : ∃ A, ([(⟨i1, i2, i3, i4, i5, i6, i7⟩ : Itm)] ++ L) = A := ⟨_, rfl⟩
          have hlA : A.length = m + 1 := by rw [← hA, List.length_append, HM.out]; simp; omega
          have HLA := Lib.hid hlA
          have HOA := Lib.hid (show ∀ x ∈ A, ItOk x by rw [← hA]; exact HOK.out)
          rw [hA] at HCY
          clear hA HOK hlA
          go_loopw [57] (fun i wq => ∃ k : Nat, i = .int .i64 k ∧ k ≤ m + 1 ∧ Below w5.heap.size w5 wq) (fun i _ => m + 1 - (intOf i).toNat)
          case atStart => exact ⟨0, rfl, Nat.zero_le _, Below.refl _ _⟩
          case round =>
            obtain ⟨k, rfl, hk, hbl⟩ := hrel
            by_cases hlt : k < m + 1
            · have hd := decide_eq_true (show (k : Int) < (m : Int) + 1 by omega)
              obtain ⟨x, hx⟩ : ∃ x, A[k]? = some x := ⟨_, List.getElem?_eq_getElem (by rw [HLA.out]; exact hlt)⟩
              obtain ⟨b, off, rfl, hc⟩ := items_at (by rw [HLA.out]; rw [HLA.out] at HCY; exact HCY.out) hx hbl
              have ho := HOA.out x (List.mem_of_getElem? hx)
              obtain ⟨j1, j2, j3, j4, j5, j6, j7⟩ := x
              have x0 : wr.cell? ⟨b, off + k * 7, none⟩ = some (.string j1) := hc 0 _ rfl
              have x1 : wr.cell? ⟨b, off + k * 7 + 1, none⟩ = some (.string j2) := hc 1 _ rfl
              have x2 : wr.cell? ⟨b, off + k * 7 + 2, none⟩ = some (.string j3) := hc 2 _ rfl
              have x3 : wr.cell? ⟨b, off + k * 7 + 3, none⟩ = some (.string j4) := hc 3 _ rfl
              have x4 : wr.cell? ⟨b, off + k * 7 + 4, none⟩ = some (.string j5) := hc 4 _ rfl
              have x5 : wr.cell? ⟨b, off + k * 7 + 5, none⟩ = some (.string j6) := hc 5 _ rfl
              have x6 : wr.cell? ⟨b, off + k * 7 + 6, none⟩ = some (.int .i8 j7) := hc 6 _ rfl
              obtain ⟨hd6, ht2, hk6⟩ := ho
              simp only at hd6 ht2 hk6
              have hB7 := hbl.alloc hbl.size (.cells #[.string j1, .string j2, .string j3, .string j4, .string j5, .string j6, .int .i8 j7] 47)
              have HB7 := Lib.hid hB7
              clear hx hc hB7 hbl
              rcases ht2 with rfl | ht2
              · rcases hk6 with ⟨rfl, rfl⟩ | ⟨hne, hk6⟩
                · clear hd6
                  go_wp2_with fail
                  refine ⟨⟨k + 1, by go_num, by omega, HB7.out⟩, by simp [intOf]; omega⟩
                · have hd6 := hd6.resolve_left (fun h => by rw [h, ByteArray.toList_eq] at hne; cases hne)
                  have hnq : (j6.toList != []) = true := by rw [bne, hne]; rfl
                  rcases hk6 with rfl | rfl
                  · go_wp2_with fail
                    refine (ref09_Blank j6 _ hd6.2.1).mono ?_
                    rintro r w8 ⟨rfl, rfl⟩
                    rw [hd6.1]
                    go_wp2_with fail
                    refine ⟨⟨k + 1, by go_num, by omega, HB7.out⟩, by simp [intOf]; omega⟩
                  · go_wp2_with fail
                    refine (ref09_Blank j6 _ hd6.2.1).mono ?_
                    rintro r w8 ⟨rfl, rfl⟩
                    rw [hd6.1]
                    go_wp2_with fail
                    refine ⟨⟨k + 1, by go_num, by omega, HB7.out⟩, by simp [intOf]; omega⟩
              · have hte := ht2.2.2
                have htq : (j2.toList != []) = true := by rw [bne, hte]; rfl
                rcases hk6 with ⟨rfl, rfl⟩ | ⟨hne, hk6⟩
                · clear hd6
                  go_wp2_with fail
                  refine (ref09_Blank j2 _ ht2.2.1).mono ?_
                  rintro r w8 ⟨rfl, rfl⟩
                  rw [ht2.1]
                  go_wp2_with fail
                  refine ⟨⟨k + 1, by go_num, by omega, HB7.out⟩, by simp [intOf]; omega⟩
                · have hd6 := hd6.resolve_left (fun h => by rw [h, ByteArray.toList_eq] at hne; cases hne)
                  have hnq : (j6.toList != []) = true := by rw [bne, hne]; rfl
                  rcases hk6 with rfl | rfl
                  · go_wp2_with fail
                    refine (ref09_Blank j6 _ hd6.2.1).mono ?_
                    rintro r w8 ⟨rfl, rfl⟩
                    rw [hd6.1]
                    go_wp2_with fail
                    refine (ref09_Blank j2 _ ht2.2.1).mono ?_
                    rintro r w8 ⟨rfl, rfl⟩
                    rw [ht2.1]
                    go_wp2_with fail
                    refine ⟨⟨k + 1, by go_num, by omega, HB7.out⟩, by simp [intOf]; omega⟩
                  · go_wp2_with fail
                    refine (ref09_Blank j6 _ hd6.2.1).mono ?_
                    rintro r w8 ⟨rfl, rfl⟩
                    rw [hd6.1]
                    go_wp2_with fail
                    refine (ref09_Blank j2 _ ht2.2.1).mono ?_
                    rintro r w8 ⟨rfl, rfl⟩
                    rw [ht2.1]
                    go_wp2_with fail
                    refine ⟨⟨k + 1, by go_num, by omega, HB7.out⟩, by simp [intOf]; omega⟩
            · have hd := decide_eq_false (show ¬ (k : Int) < (m : Int) + 1 by omega)
              have hB7 := HB5.out.below hbl HB5.out.lt
              have k0 : wr.cell? ⟨g1, 0, none⟩ = some (.int .i8 F) := hB7.blk.cell 0 rfl
              have k8 : wr.cell? ⟨g1, 8, none⟩ = some (.slice pa m ca) := hB7.blk.cell 8 rfl
              have e0 := decide_eq_true (show m ≤ N from hmc)
              have hbf := HBW.out.trans (hbl.mono HBW.out.size)
              have HBF := Lib.hid hbf
              have hF : F = 1 ∨ F = 2 := by rw [HFM.out]; exact HKO.out
              clear hbl hB7 hbf HB5 HCY
              rcases hF with rfl | rfl
              all_goals
                go_wp2_with fail
                refine (HW.out _).mono ?_
                rintro r w9 ⟨rfl, hb9⟩
                go_wp2_with fail
                go_ret
                exact ⟨rfl, bt HBF.out hb9⟩
end Go.Proofs.Yteefopeclfojiaa
