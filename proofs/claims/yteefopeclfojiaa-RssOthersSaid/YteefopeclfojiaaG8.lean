/-
  Parts Evd RxA RxB Evg Evh of this seat's texts, in one file: contracts of functions that the law reaches, and the plain laws behind them. No condition.
-/
import Derived.Test.YteefopeclfojiaaG7
import Derived.Test.YteefopeclfojiaaG6
/- 
  Layer 16: the law EventsNest.
 -/
namespace Go.Proofs.Yteefopeclfojiaa
open Go.RowKit
theorem str_app_tx (l : List Int) (s : ByteArray) : strOfNums l ++ s = strOfNums (l ++ nums s) := by rw [← strOfNums_app, strOfNums_nums]
theorem ownL_size {es : List Evt} (E : Nat → Option Nat) (l : List Nat) (k : Nat) (hl : l.length ≤ 300) (ht : (txsL es).length ≤ 140737488355000) : (ownL es E k l).length ≤ 42221246506500000 := by
  have h1 := ownL_le es E l k
  have h2 : l.length * (txsL es).length ≤ 300 * 140737488355000 := Nat.mul_le_mul hl ht
  omega
set_option maxRecDepth 100000 in
set_option maxHeartbeats 16000000 in
theorem law_EventsNest (v : Value) (es : List Evt) (i : Int) (w : World) (hl : EvsIn w v es) :
    Calls Try.prog 4 #[v, .int .i64 i] w fun r w' => r = .returned (.bool true) ∧ Below w.heap.size w w' := by
  have hR := hl.r
  have hZ := hl.small
  have hn := hl.at_.n
  have hcap := hl.cap
  obtain ⟨avs, ⟨a, cap, rfl, -⟩, -⟩ := id hR
  have G1 := Lib.hid (ref16_Great w.heap.size es _ w hR (Nat.le_refl _) hn hZ)
  have HW := Lib.hid law_wakes
  have wk : ∀ W, Below w.heap.size w W → Calls Try.prog 17 #[] W fun r w' => r = .returned (.bool true) ∧ Below w.heap.size w w' := fun W hW => (HW.out W).mono fun r w' h => ⟨h.1, bt hW h.2⟩
  have WK := Lib.hid wk
  clear wk HW
  obtain ⟨n, hnn⟩ : ∃ n, es.length = n := ⟨_, rfl⟩
  have HN := Lib.hid hnn
  have HC := Lib.hid hcap
  rw [hnn] at G1 hR ⊢
  have HR := Lib.hid hR
  have hb1 := Below.refl w.heap.size w
  clear hn hZ hl hR hcap
  go_enter Try.func4, Try.ntmps4
  go_wp2_with fail
  refine (G1.out).mono ?_
  rintro r w2 ⟨b1, rfl, hg1, hb2⟩
  replace hb1 := bt hb1 hb2
  clear hb2 G1
  cases b1 with
  | true =>
    clear hg1 HR HC
    go_wp2_with fail
    refine (WK.out _ hb1).mono ?_
    rintro r w9 ⟨rfl, hb9⟩
    go_wp2_with fail
    go_ret
    exact ⟨rfl, hb9⟩
  | false =>
    have OK := Lib.hid (hg1 rfl)
    have hn300 : n ≤ 300 := by rw [← HN.out]; exact OK.out.len
    clear hg1 hnn
    have KE := Lib.hid (fun (j : Int) (W : World) (hW : Below w.heap.size w W) => events_End w.heap.size es (.slice a n cap) j W (HR.out.below hW (Nat.le_refl _)) hW.size (by rw [HN.out]; omega) (fun e he => by have := OK.out.ats e he; omega))
    have KT := Lib.hid (fun (j : Int) (W : World) (hW : Below w.heap.size w W) => events_Text w.heap.size es (.slice a n cap) j W (HR.out.below hW (Nat.le_refl _)) hW.size (by rw [HN.out]; omega) (fun e he => by have := OK.out.ats e he; omega) (by have := OK.out.txs; omega) (by have h := HC.out; rw [HN.out] at h ⊢; exact h))
    have KK := Lib.hid (fun (j : Int) (W : World) (hW : Below w.heap.size w W) => events_Kids w.heap.size es (.slice a n cap) j W (HR.out.below hW (Nat.le_refl _)) hW.size (by rw [HN.out]; omega) (fun e he => by have := OK.out.ats e he; omega))
    have KP := Lib.hid (fun (j : Int) (W : World) (hW : Below w.heap.size w W) => events_Path w.heap.size es (.slice a n cap) j W (HR.out.below hW (Nat.le_refl _)) hW.size (by rw [HN.out]; omega) (fun e he => by have := OK.out.ats e he; omega))
    have KO := Lib.hid (fun (j : Int) (W : World) (hW : Below w.heap.size w W) => events_Own w.heap.size es (.slice a n cap) j W (HR.out.below hW (Nat.le_refl _)) hW.size (by rw [HN.out]; omega) (fun e he => by have := OK.out.ats e he; omega) (by have := OK.out.txs; omega) (by have h := HC.out; rw [HN.out] at h ⊢; exact h))
    go_wp2_with fail
    refine (KE.out i _ hb1).mono ?_
    rintro r w3 ⟨hb3, hr⟩
    replace hb1 := bt hb1 hb3
    clear hb3
    cases hat : atP es i with
    | none =>
      rw [hat] at hr
      have hr : r = .returned (.tuple #[.int .i64 0, .bool false]) := hr
      subst hr
      have t1 : textP es i = [] := by unfold textP; rw [hat]
      have t2 : kidsP es i = [] := by unfold kidsP; rw [hat]
      have KT1 := KT.out i
      rw [t1, strOfNums_nil] at KT1
      have KK1 := KK.out i
      rw [t2] at KK1
      have KT1 := Lib.hid KT1
      have KK1 := Lib.hid KK1
      clear t1 t2 hat KE KT KK KP KO
      go_wp2_with fail
      refine (KT1.out _ hb1).mono ?_
      rintro r w4 ⟨rfl, hb4⟩
      replace hb1 := bt hb1 hb4
      clear hb4
      go_wp2_with fail
      refine (KK1.out _ hb1).mono ?_
      rintro r w5 ⟨ku, rfl, hrow, hb5⟩
      obtain ⟨ka, kl, kc, rfl⟩ := own_slice hrow
      have hkl : kl = 0 := by
        rcases hrow.2 with ⟨h1, -⟩ | ⟨g, cp, cur, h1, -⟩
        · injection h1
        · injection h1
      subst hkl
      replace hb1 := bt hb1 hb5
      clear hb5 hrow
      go_wp2_with fail
      refine (WK.out _ hb1).mono ?_
      rintro r w9 ⟨rfl, hb9⟩
      go_wp2_with fail
      go_ret
      exact ⟨rfl, hb9⟩
    | some g =>
      rw [hat] at hr
      obtain ⟨hG, hN, hcell, p, e, rfl, hE, hEn, hpe, he⟩ := atP_nest hat
      have hr : r = .returned (.tuple #[endV g p, .bool true]) := hr
      have hev := (endV_some hcell hE).1
      rw [hev] at hr
      subst hr
      clear hev
      rw [HN.out] at he
      obtain ⟨x0, hx0⟩ : ∃ x, es[p]? = some x := ⟨_, List.getElem?_eq_getElem (by rw [HN.out]; omega)⟩
      obtain ⟨b, off, cap', av0, hv0, -⟩ := HR.out.get (Below.refl _ w) (Nat.le_refl _) p x0 hx0
      rw [HN.out] at hv0
      cases hv0
      obtain ⟨gs, hgs, -⟩ := sub_whole hG hE
      have hncap : n ≤ cap := by
        obtain ⟨a', c', h1, h2, -⟩ := HC.out
        injection h1 with h3 h4 h5
        rw [HN.out] at h2
        omega
      have hsub := HR.out.sub p (e + 1 - p) (cap - p) (by rw [HN.out]; omega)
      have KW := fun (W : World) (hW : Below w.heap.size w W) => events_Whole w.heap.size _ (.slice (some ⟨b, off + p * 5, none⟩) (e + 1 - p) (cap - p)) W (hsub.below hW (Nat.le_refl _)) hW.size (by rw [List.length_take, List.length_drop, HN.out]; omega) (fun y hy => by have := OK.out.ats y (List.mem_of_mem_drop (List.mem_of_mem_take hy)); omega)
      rw [hgs] at KW
      have KW := Lib.hid KW
      have q1 := decide_eq_false (show ¬ (e : Int) ≤ (p : Int) by omega)
      have q2 := decide_eq_false (show ¬ (n : Int) ≤ (e : Int) by omega)
      have q3 : (p : Int) ≤ (e : Int) + 1 := by omega
      have q4 : (e : Int) + 1 ≤ (cap : Int) := by omega
      have q5 : ¬ cap = p := by omega
      have HG := Lib.hid hG
      have HNest := Lib.hid hN
      have HE := Lib.hid hE
      have HX0 := Lib.hid hx0
      clear hat hG hN hcell hE hEn hx0 hgs hsub
      go_wp2_with fail
      refine (KW.out _ hb1).mono ?_
      rintro r w4 ⟨rfl, hb4⟩
      replace hb1 := bt hb1 hb4
      clear hb4 KW
      go_wp2_with fail
      refine (KK.out p _ hb1).mono ?_
      rintro r w5 ⟨ku, rfl, hrow, hb5⟩
      replace hb1 := bt hb1 hb5
      clear hb5
      rw [kidsP_of HG.out HE.out] at hrow
      obtain ⟨kids, hkids⟩ : ∃ k, kidsL (endO g) p e = k := ⟨_, rfl⟩
      rw [hkids] at hrow
      obtain ⟨kl, hkl⟩ : ∃ k, kids.length = k := ⟨_, rfl⟩
      rw [hkl] at hrow
      obtain ⟨ka, kl', kc, rfl⟩ := own_slice hrow
      have hkl2 : kl' = kl := by
        rcases hrow.2 with ⟨h1, h2⟩ | ⟨g', cp, cur, h1, -⟩
        · injection h1 with _ h3
          omega
        · injection h1
      subst hkl2
      have hkln : kl' ≤ 300 := by
        rw [← hkl, ← hkids]
        have h1 := kidF_len (E := endO g) (e := e) (fun p j h => (HNest.out.lt p j h).1) e (p + 1)
        unfold kidsL
        omega
      have HKids := Lib.hid hkids
      have HKL := Lib.hid hkl
      have HROW := Lib.hid hrow
      clear hkids hkl hrow
      go_wp2_with fail
      refine (KP.out p _ hb1).mono ?_
      rintro r w6 ⟨pv, rfl, hprow, hb6⟩
      obtain ⟨pl, hpl⟩ : ∃ k, (pathP es p).length = k := ⟨_, rfl⟩
      unfold NmsR at hprow
      rw [hpl] at hprow
      obtain ⟨pa, pl', pc, rfl⟩ := own_slice hprow
      have hpl2 : pl' = pl := by
        rcases hprow.2 with ⟨h1, h2⟩ | ⟨g', cp, cur, h1, -⟩
        · injection h1 with _ h3
          omega
        · injection h1
      subst hpl2
      have hpath : (pathP es p) = nmAt es (pathK (endO g) p (p + 1)) := by
        unfold pathP
        rw [atP_of HG.out HE.out]
        simp only [Int.toNat_natCast]
      have hpln : pl' ≤ 301 := by
        rw [← hpl, hpath, nmAt_len]
        have := pathK_len (endO g) p (p + 1)
        omega
      have HROW2 := Lib.hid (own_below HROW.out hb6 (Nat.le_refl _))
      replace hb1 := bt hb1 hb6
      have HPL := Lib.hid hpl
      have HPath := Lib.hid hpath
      clear hb6 HROW hprow hpl hpath
      go_wp2_with fail
      go_loopw [9, 10, 11, 12] (fun at_ all own i wr => ∃ k f : Nat, i = .int .i64 k ∧ k ≤ kl' ∧ at_ = .int .i64 f ∧ Hid (f = fromK (endO g) (p + 1) (kids.take k)) ∧ all = .string (strOfNums (segL es (p + 1) f)) ∧ own = .string (strOfNums (ownL es (endO g) (p + 1) (kids.take k))) ∧ Below w6.heap.size w6 wr) (fun _ _ _ i _ => kl' - (intOf i).toNat)
      case atStart => exact ⟨0, p + 1, rfl, by omega, by go_num, Lib.hid rfl, by rw [segL_same, strOfNums_nil], by simp [ownL, strOfNums], Below.refl _ _⟩
      case round =>
        obtain ⟨k, f, rfl, hk, rfl, HF, rfl, rfl, hbl⟩ := hrel
        by_cases hlt : k < kl'
        · have hd := decide_eq_true (show (k : Int) < (kl' : Int) by omega)
          obtain ⟨x, hx⟩ : ∃ x, kids[k]? = some x := ⟨_, List.getElem?_eq_getElem (by rw [HKL.out]; exact hlt)⟩
          obtain ⟨jx, hka⟩ := kidAt (k := k) (x := x) HNest.out HE.out (by rw [HKids.out]; exact hx)
          rw [HKids.out] at hka
          obtain ⟨kg, hkg⟩ : ∃ kg, ka = some ⟨kg, 0, none⟩ := by
            rcases HROW2.out.2 with ⟨h1, h2⟩ | ⟨g', cp, cur, h1, -⟩
            · omega
            · injection h1 with h2
              exact ⟨g', h2⟩
          subst hkg
          have hrow := own_below HROW2.out hbl (Nat.le_refl _)
          have kcell : wr.cell? ⟨kg, k, none⟩ = some (.int .i64 (x : Int)) := by
            have h1 := hrow.cells (g := kg) rfl k (.int .i64 (x : Int)) (by unfold natC; rw [List.map_map, List.getElem?_map, hx]; rfl)
            rwa [addr0, Nat.zero_add] at h1
          have hfx : f ≤ x := by rw [HF.out]; exact hka.le
          have hpf : p + 1 ≤ f := by rw [HF.out]; exact hka.from_
          have hxj := hka.lt
          have hje := hka.end_
          have r1 := decide_eq_false (show ¬ (x : Int) < (f : Int) by omega)
          have r2 := decide_eq_false (show ¬ (e : Int) ≤ (x : Int) by omega)
          have r1n := decide_eq_false (show ¬ x < f by omega)
          have r2n := decide_eq_false (show ¬ e ≤ x by omega)
          have HKA := Lib.hid hka
          have HX := Lib.hid hx
          clear hrow hka hx
          go_wp2_with fail
          obtain ⟨OW, hOW⟩ : ∃ o, ownL es (endO g) (p + 1) (kids.take k) = o := ⟨_, rfl⟩
          have hOWz : OW.length ≤ 42221246506500000 := by rw [← hOW]; exact ownL_size _ _ _ (by rw [List.length_take, HKL.out]; omega) OK.out.txs
          rw [hOW]
          have HOW := Lib.hid hOW
          have hbw := bt hb1 hbl
          clear hOW
          go_loopw [9, 10, 11] (fun at_ all own wi => ∃ t : Nat, at_ = .int .i64 t ∧ f ≤ t ∧ t ≤ x ∧ all = .string (strOfNums (segL es (p + 1) t)) ∧ own = .string (strOfNums (OW ++ segL es f t)) ∧ wi = wr) (fun at_ _ _ _ => x - (intOf at_).toNat)
          case atStart => exact ⟨f, rfl, Nat.le_refl _, hfx, rfl, by rw [segL_same, List.append_nil], rfl⟩
          case round =>
            obtain ⟨t, rfl, ht1, ht2, rfl, rfl, rfl⟩ := hrel
            by_cases htx : t < x
            · have s1 := decide_eq_true (show (t : Int) < (x : Int) by omega)
              obtain ⟨y, hy, hyk⟩ := HKA.out.text t (by rw [← HF.out]; exact ht1) htx
              obtain ⟨b', off', cap', av', hv', -, c0, c1, c2, c3, c4, -⟩ := HR.out.get hbw (Nat.le_refl _) t y hy
              rw [HN.out] at hv'
              cases hv'
              rw [hyk] at c0
              have htn : t < n := by omega
              have hz1 := segL_le es (p + 1) t
              have hz2 := segL_le es f t
              have hz3 := OK.out.txs
              have hz4 := OK.out.at_le (List.mem_of_getElem? hy)
              have ha1 : strOfNums (segL es (p + 1) t) ++ y.tx = strOfNums (segL es (p + 1) (t + 1)) := by rw [str_app_tx, segL_step (by omega) hy]
              have ha2 : strOfNums (OW ++ segL es f t) ++ y.tx = strOfNums (OW ++ segL es f (t + 1)) := by rw [str_app_tx, segL_step ht1 hy, List.append_assoc]
              have hq1 : ¬ (9223372036854775807 : Nat) < (strOfNums (segL es (p + 1) t)).size + y.tx.size := by rw [strOfNums_size]; omega
              have hq2 : ¬ (9223372036854775807 : Nat) < (strOfNums (OW ++ segL es f t)).size + y.tx.size := by rw [strOfNums_size, List.length_append]; omega
              obtain ⟨S1, hS1⟩ : ∃ s, strOfNums (segL es (p + 1) t) = s := ⟨_, rfl⟩
              obtain ⟨S2, hS2⟩ : ∃ s, strOfNums (OW ++ segL es f t) = s := ⟨_, rfl⟩
              rw [hS1] at ha1 hq1 ⊢
              rw [hS2] at ha2 hq2 ⊢
              have HA1 := Lib.hid ha1
              have HA2 := Lib.hid ha2
              clear ha1 ha2 hS1 hS2 hz1 hz2 hz3 hz4 hy
              go_wp2_with fail
              exact ⟨⟨t + 1, by go_num, by omega, by omega, by rw [HA1.out], by rw [HA2.out], trivial⟩, by simp [intOf]; omega⟩
            · have s1 := decide_eq_false (show ¬ (t : Int) < (x : Int) by omega)
              have htx2 : t = x := by omega
              subst htx2
              have hos : OW ++ segL es f t = ownL es (endO g) (p + 1) (kids.take (k + 1)) := by
                have h1 : kids.take (k + 1) = kids.take k ++ [t] := by rw [List.take_add_one, HX.out]; rfl
                rw [h1, ownL_snoc, HOW.out, ← HF.out]
              have hfs : jx + 1 = fromK (endO g) (p + 1) (kids.take (k + 1)) := by
                have h1 : kids.take (k + 1) = kids.take k ++ [t] := by rw [List.take_add_one, HX.out]; rfl
                rw [h1, fromK_snoc _ _ _ _ _ HKA.out.hE]
              rw [hos]
              have HFS := Lib.hid hfs
              have hjt := HKA.out.hE
              have hat := atP_of HG.out hjt
              have hev := (endV_some (growP_nest HG.out).2 hjt).1
              have KE1 := KE.out t
              rw [hat] at KE1
              have KE1 := Lib.hid KE1
              have HEV := Lib.hid hev
              have hpp : pathP es t = nmAt es (pathK (endO g) p (p + 1)) ++ [((es[t]?).map Evt.n).getD (⟨#[]⟩, ⟨#[]⟩)] := by
                unfold pathP
                rw [hat]
                simp only [Int.toNat_natCast]
                rw [pathK_kid HNest.out HE.out HKA.out]
                unfold nmAt
                rw [List.map_append]
                rfl
              obtain ⟨y, hy⟩ : ∃ y, es[t]? = some y := ⟨_, List.getElem?_eq_getElem (by rw [HN.out]; omega)⟩
              rw [hy] at hpp
              simp only [Option.map_some, Option.getD_some] at hpp
              have KP1 := KP.out t
              rw [hpp] at KP1
              have KP1 := Lib.hid KP1
              have KT1 := KT.out t
              rw [textP_of HG.out hjt] at KT1
              have KT1 := Lib.hid KT1
              have HY := Lib.hid hy
              clear hos hfs hjt hat hev hpp hy
              go_wp2_with fail
              refine (KE1.out _ hbw).mono ?_
              rintro r u1 ⟨hb, hr2⟩
              have hr2 : r = .returned (.tuple #[endV g t, .bool true]) := hr2
              rw [HEV.out] at hr2
              subst hr2
              have hbl1 := bt hbl hb
              have hrow1 := own_below HROW2.out hbl1 (Nat.le_refl _)
              have kcell1 : u1.cell? ⟨kg, k, none⟩ = some (.int .i64 (t : Int)) := by
                have h1 := hrow1.cells (g := kg) rfl k (.int .i64 (t : Int)) (by unfold natC; rw [List.map_map, List.getElem?_map, HX.out]; rfl)
                rwa [addr0, Nat.zero_add] at h1
              clear hb hrow1 kcell KE1
              go_wp2_with fail
              refine (KP1.out _ (bt hb1 hbl1)).mono ?_
              rintro r u2 ⟨qv, rfl, hqrow, hb⟩
              have hbl2 := bt hbl1 hb
              have hrow2 := own_below HROW2.out hbl2 (Nat.le_refl _)
              have kcell2 : u2.cell? ⟨kg, k, none⟩ = some (.int .i64 (t : Int)) := by
                have h1 := hrow2.cells (g := kg) rfl k (.int .i64 (t : Int)) (by unfold natC; rw [List.map_map, List.getElem?_map, HX.out]; rfl)
                rwa [addr0, Nat.zero_add] at h1
              unfold NmsR at hqrow
              have hql : (nmAt es (pathK (endO g) p (p + 1)) ++ [y.n]).length = pl' + 1 := by rw [List.length_append, ← HPath.out, HPL.out]; rfl
              rw [hql] at hqrow
              obtain ⟨qg, qc, rfl, hqc⟩ : ∃ g cp, qv = .slice (some ⟨g, 0, none⟩) (pl' + 1) cp ∧ pl' + 1 ≤ cp := by
                rcases hqrow.2 with ⟨-, h1⟩ | ⟨g, cp, cur, h1, h2, h3, h4, -⟩
                · omega
                · exact ⟨g, cp, h1, h4⟩
              have hat2 := nmC_at (nmAt es (pathK (endO g) p (p + 1)) ++ [y.n]) pl' y.n (by
                have : (nmAt es (pathK (endO g) p (p + 1))).length = pl' := by rw [← HPath.out, HPL.out]
                rw [← this]; simp)
              have n0 := hqrow.cells (g := qg) rfl _ _ hat2.1
              have n1 := hqrow.cells (g := qg) rfl _ _ hat2.2
              rw [addr0, Nat.zero_add] at n0 n1
              have hbw2 := bt hb1 hbl2
              obtain ⟨b', off', cap', av', hv', -, c0, c1, c2, c3, c4, -⟩ := HR.out.get hbw2 (Nat.le_refl _) t y HY.out
              rw [HN.out] at hv'
              cases hv'
              have htn : t < n := by omega
              have v1 := toL_self y.n.1
              have v2 := toL_self y.n.2
              have v3 := decide_eq_false (show ¬ (e : Int) ≤ (jx : Int) by omega)
              have v3n := decide_eq_false (show ¬ e ≤ jx by omega)
              have v4 : IntKind.i64.wrap ((pl' : Int) + 1) = (pl' : Int) + 1 := by rw [IntKind.wrap_i64]; omega
              have v5 : IntKind.i64.wrap ((pl' : Int) + 1 - 1) = (pl' : Int) := by rw [IntKind.wrap_i64]; omega
              clear hb hrow2 kcell1 hqrow hat2 hql KP1
              go_wp2_with fail
              go_quiet (fail)
              have hbw3 := below_dn hbw2 nq
              have hbl3 := below_dn hbl2 nq
              have kcell3 : (u2.drewN nq).cell? ⟨kg, k, none⟩ = some (.int .i64 (t : Int)) := kcell2
              clear c0 c1 c2 c3 c4 n0 n1 v1 v2 v4 v5 kcell2
              generalize u2.drewN nq = u3 at hbw3 hbl3 kcell3 ⊢
              go_wp2_with fail
              refine (KT1.out _ hbw3).mono ?_
              rintro r u4 ⟨rfl, hb⟩
              replace hbl3 := bt hbl3 hb
              have hseg : segL es (p + 1) t ++ txsL ((es.drop t).take (jx - t)) = segL es (p + 1) (jx + 1) := by
                obtain ⟨-, hjn, -, y2, -, hy2, -, hk2, -⟩ := HNest.out.lt t jx HKA.out.hE
                rw [show txsL ((es.drop t).take (jx - t)) = segL es t jx from rfl, segL_add (by omega) (by omega), segL_step (by omega) hy2, fld_end (growP_fld HG.out y2 (List.mem_of_getElem? hy2)) hk2, List.append_nil]
              have hz1 := segL_le es (p + 1) t
              have hz2 := segL_le es t jx
              have hz3 := OK.out.txs
              have hq1 : ¬ (9223372036854775807 : Nat) < (strOfNums (segL es (p + 1) t)).size + (strOfNums (txsL ((es.drop t).take (jx - t)))).size := by
                rw [strOfNums_size, strOfNums_size, show txsL ((es.drop t).take (jx - t)) = segL es t jx from rfl]
                omega
              have hA : strOfNums (segL es (p + 1) t) ++ strOfNums (txsL ((es.drop t).take (jx - t))) = strOfNums (segL es (p + 1) (jx + 1)) := by rw [strOfNums_app, hseg]
              obtain ⟨S1, hS1⟩ : ∃ s, strOfNums (segL es (p + 1) t) = s := ⟨_, rfl⟩
              obtain ⟨S2, hS2⟩ : ∃ s, strOfNums (txsL ((es.drop t).take (jx - t))) = s := ⟨_, rfl⟩
              rw [hS1, hS2] at hq1 hA
              rw [hS1, hS2]
              have HA := Lib.hid hA
              clear hA hS1 hS2 hseg hz1 hz2 hz3 hb kcell3 KT1
              go_wp2_with fail
              exact ⟨⟨k + 1, jx + 1, by go_num, by omega, by go_num, HFS, by rw [HA.out], rfl, hbl3⟩, by simp [intOf]; omega⟩
        · have hd := decide_eq_false (show ¬ (k : Int) < (kl' : Int) by omega)
          have hkk : kids.take k = kids := List.take_of_length_le (by rw [HKL.out]; omega)
          have hfe : p + 1 ≤ f ∧ f ≤ e := by
            rw [HF.out, hkk]
            rcases List.eq_nil_or_concat kids with h0 | ⟨ini, z, h0⟩
            · rw [h0, fromK_nil]; omega
            · rw [List.concat_eq_append] at h0
              have hz : kids[ini.length]? = some z := by rw [h0]; simp
              obtain ⟨jz, hka⟩ := kidAt (k := ini.length) (x := z) HNest.out HE.out (by rw [HKids.out]; exact hz)
              rw [h0, fromK_snoc _ _ _ _ _ hka.hE]
              have h1 := hka.from_
              have h2 := hka.le
              have h3 := hka.lt
              have h4 := hka.end_
              omega
          obtain ⟨OW, hOW⟩ : ∃ o, ownL es (endO g) (p + 1) (kids.take k) = o := ⟨_, rfl⟩
          have hOWz : OW.length ≤ 42221246506500000 := by rw [← hOW]; exact ownL_size _ _ _ (by rw [List.length_take, HKL.out]; omega) OK.out.txs
          rw [hOW]
          rw [hkk] at hOW
          have HOW := Lib.hid hOW
          have HFF : Hid (f = fromK (endO g) (p + 1) kids) := Lib.hid (by rw [HF.out, hkk])
          have hbw := bt hb1 hbl
          clear hOW hkk
          go_wp2_with fail
          go_loopw [9, 10, 11] (fun at_ all own wi => ∃ t : Nat, at_ = .int .i64 t ∧ f ≤ t ∧ t ≤ e ∧ all = .string (strOfNums (segL es (p + 1) t)) ∧ own = .string (strOfNums (OW ++ segL es f t)) ∧ wi = wr) (fun at_ _ _ _ => e - (intOf at_).toNat)
          case atStart => exact ⟨f, rfl, Nat.le_refl _, hfe.2, rfl, by rw [segL_same, List.append_nil], rfl⟩
          case round =>
            obtain ⟨t, rfl, ht1, ht2, rfl, rfl, rfl⟩ := hrel
            by_cases htx : t < e
            · have s1 := decide_eq_true (show (t : Int) < (e : Int) by omega)
              obtain ⟨y, hy⟩ : ∃ y, es[t]? = some y := ⟨_, List.getElem?_eq_getElem (by rw [HN.out]; omega)⟩
              obtain ⟨b', off', cap', av', hv', -, c0, c1, c2, c3, c4, -⟩ := HR.out.get hbw (Nat.le_refl _) t y hy
              rw [HN.out] at hv'
              cases hv'
              have htn : t < n := by omega
              have hz1 := segL_le es (p + 1) t
              have hz2 := segL_le es f t
              have hz3 := OK.out.txs
              have hz4 := OK.out.at_le (List.mem_of_getElem? hy)
              have ha1 : strOfNums (segL es (p + 1) t) ++ y.tx = strOfNums (segL es (p + 1) (t + 1)) := by rw [str_app_tx, segL_step (by omega) hy]
              have ha2 : strOfNums (OW ++ segL es f t) ++ y.tx = strOfNums (OW ++ segL es f (t + 1)) := by rw [str_app_tx, segL_step ht1 hy, List.append_assoc]
              have hq1 : ¬ (9223372036854775807 : Nat) < (strOfNums (segL es (p + 1) t)).size + y.tx.size := by rw [strOfNums_size]; omega
              have hq2 : ¬ (9223372036854775807 : Nat) < (strOfNums (OW ++ segL es f t)).size + y.tx.size := by rw [strOfNums_size, List.length_append]; omega
              obtain ⟨S1, hS1⟩ : ∃ s, strOfNums (segL es (p + 1) t) = s := ⟨_, rfl⟩
              obtain ⟨S2, hS2⟩ : ∃ s, strOfNums (OW ++ segL es f t) = s := ⟨_, rfl⟩
              rw [hS1] at ha1 hq1 ⊢
              rw [hS2] at ha2 hq2 ⊢
              have HA1 := Lib.hid ha1
              have HA2 := Lib.hid ha2
              clear ha1 ha2 hS1 hS2 hz1 hz2 hz3 hz4 hy
              go_wp2_with fail
              exact ⟨⟨t + 1, by go_num, by omega, by omega, by rw [HA1.out], by rw [HA2.out], trivial⟩, by simp [intOf]; omega⟩
            · have s1 := decide_eq_false (show ¬ (t : Int) < (e : Int) by omega)
              have htx2 : t = e := by omega
              subst htx2
              have hT : textP es p = segL es (p + 1) t := by
                rw [textP_of HG.out HE.out, show txsL ((es.drop p).take (t - p)) = segL es p t from rfl, ← segL_add (show p ≤ p + 1 by omega) (show p + 1 ≤ t by omega), segL_step (Nat.le_refl p) HX0.out, segL_same, List.nil_append]
                obtain ⟨-, -, y1, y2, hy1, -, hk1, -⟩ := HNest.out.lt p t HE.out
                rw [HX0.out] at hy1
                injection hy1 with hy1
                subst hy1
                rw [fld_start (growP_fld HG.out x0 (List.mem_of_getElem? HX0.out)) hk1, List.nil_append]
              have hO : ownP es p = OW ++ segL es f t := by rw [ownP_of HG.out HE.out, HKids.out, HOW.out, ← HFF.out]
              have KT1 := KT.out p
              have KO1 := KO.out p
              rw [hT] at KT1
              rw [hO] at KO1
              obtain ⟨S1, hS1⟩ : ∃ s, strOfNums (segL es (p + 1) t) = s := ⟨_, rfl⟩
              obtain ⟨S2, hS2⟩ : ∃ s, strOfNums (OW ++ segL es f t) = s := ⟨_, rfl⟩
              rw [hS1] at KT1 ⊢
              rw [hS2] at KO1 ⊢
              have KT1 := Lib.hid KT1
              have KO1 := Lib.hid KO1
              have v1 : (S1.toList == S1.toList) = true := by simp
              have v2 : (S2.toList == S2.toList) = true := by simp
              clear hT hO hS1 hS2
              go_wp2_with fail
              refine (KT1.out _ hbw).mono ?_
              rintro r u1 ⟨rfl, hb⟩
              replace hbw := bt hbw hb
              clear hb KT1
              go_wp2_with fail
              refine (KO1.out _ hbw).mono ?_
              rintro r u2 ⟨rfl, hb⟩
              replace hbw := bt hbw hb
              clear hb KO1
              go_wp2_with fail
              refine (WK.out _ hbw).mono ?_
              rintro r w9 ⟨rfl, hb9⟩
              go_wp2_with fail
              go_ret
              exact ⟨rfl, hb9⟩
end Go.Proofs.Yteefopeclfojiaa
/- 
  Layer 16: the walks of the document's match, at, End, Kids.
 -/
namespace Go.Proofs.Yteefopeclfojiaa
open Go.RowKit
theorem RdI.pos {es : List Evt} {gf : Gr} {j m d : Nat} {g : Gr} {os : List Nat} (h : RdI es gf j m d g os) (h0 : 0 < j) (hj : j < es.length) : 0 < m := by
  obtain ⟨h1, h2, h3, h4, h5, h6⟩ := h
  rcases Nat.eq_zero_or_pos m with h7 | h7
  · exfalso
    have hos : os = [] := List.eq_nil_of_length_eq_zero (by omega)
    obtain ⟨x, hx⟩ : ∃ x, es[j]? = some x := ⟨_, List.getElem?_eq_getElem hj⟩
    have hdr : es.drop j = x :: es.drop (j + 1) := by
      obtain ⟨e1, e2⟩ := List.getElem?_eq_some_iff.1 hx
      rw [← e2, List.drop_eq_getElem_cons e1]
    obtain ⟨op, ends, deep⟩ := g
    rw [hdr, grun, Option.bind_assoc] at h1
    obtain ⟨g2, hg, -⟩ := Option.bind_eq_some_iff.1 h1.symm
    simp only at h2
    rw [hos] at h2
    exact (gstep_iff.1 hg).2.1 ⟨h2, .inl h0⟩
  · exact h7
theorem RdI.zero {es : List Evt} {gf : Gr} {j m d : Nat} {g : Gr} {os : List Nat} (h : RdI es gf j m d g os) (hj : es.length ≤ j) : m = 0 := by
  obtain ⟨h1, h2, h3, h4, h5, h6⟩ := h
  rw [List.drop_eq_nil_of_le hj] at h1
  have h7 : some gf = gfin es g := h1
  unfold gfin at h7
  split at h7
  · cases h7
  · rename_i hh
    have : g.op = [] := by
      by_cases e : g.op = []
      · exact e
      · exact absurd (.inr e) hh
    rw [h2] at this
    rw [← h3, cI_nil_iff.1 this]
    rfl
set_option maxRecDepth 100000 in
set_option maxHeartbeats 8000000 in
theorem ref16_match (B : Nat) (es : List Evt) (v : Value) (g : Gr) (p e : Nat) (w : World) (hr : EvsR B w v es) (hn : es.length ≤ 1000000) (hG : growP es = some g) (hE : endO g p = some e) :
    Calls Try.prog 108 #[v, .int .i64 p] w fun r w' => r = .returned (.int .i64 e) ∧ w = w' := by
  obtain ⟨avs, ⟨a, cap, rfl, -⟩, -⟩ := id hr
  obtain ⟨n, hnn⟩ : ∃ n, es.length = n := ⟨_, rfl⟩
  have HN := Lib.hid hnn
  obtain ⟨hpe, hen, -⟩ := (growP_nest hG).1.lt p e hE
  obtain ⟨gs, hgs, -⟩ := sub_whole hG hE
  rw [hnn] at hr hn hen ⊢
  obtain ⟨sub, hsub⟩ : ∃ s, (es.drop p).take (e + 1 - p) = s := ⟨_, rfl⟩
  rw [hsub] at hgs
  have hsl : sub.length = e + 1 - p := by rw [← hsub, List.length_take, List.length_drop]; omega
  have hsg : ∀ j, j < e + 1 - p → sub[j]? = es[p + j]? := fun j hj => by rw [← hsub, List.getElem?_take_of_lt hj, List.getElem?_drop]
  have HSL := Lib.hid hsl
  have HSG := Lib.hid hsg
  have I0 : RdI sub gs 0 0 0 ⟨[], [], 0⟩ [] := ⟨hgs.symm, rfl, rfl, rfl, Nat.le_refl _, Nat.le_refl _⟩
  clear hnn hG hE hsub hgs hsl hsg
  go_enter Try.func108, Try.ntmps108
  go_wp2_with fail
  go_loopw [5, 6] (fun m i wr => ∃ (j M D : Nat) (g : Gr) (os : List Nat), i = .int .i64 (p + j : Nat) ∧ m = .int .i64 M ∧ j < e + 1 - p ∧ RdI sub gs j M D g os ∧ wr = w) (fun _ i _ => n - (intOf i).toNat)
  case atStart => exact ⟨0, 0, 0, _, [], by go_num, rfl, by omega, I0, rfl⟩
  case round =>
    clear I0
    obtain ⟨j, M, D, g, os, rfl, rfl, hj, I, rfl⟩ := hrel
    have hlj := I.lj
    have hle := I.le
    have hlt : p + j < n := by omega
    obtain ⟨k, hk⟩ : ∃ k, p + j = k := ⟨_, rfl⟩
    have HK := Lib.hid hk
    obtain ⟨x, hx⟩ : ∃ x, es[k]? = some x := ⟨_, List.getElem?_eq_getElem (by rw [HN.out]; omega)⟩
    have hnx := I.next (x := x) (by rw [HSG.out j hj, hk]; exact hx)
    obtain ⟨b, off, cap', av, hv, hbB, c0, -⟩ := hr.get (Below.refl B wr) (Nat.le_refl _) k x hx
    rw [HN.out] at hv
    cases hv
    rw [hk] at hlt ⊢
    have hd := decide_eq_true (show (k : Int) < (n : Int) by omega)
    have hfin : ∀ M' D' g' os', RdI sub gs (j + 1) M' D' g' os' → (M' = 0 ∧ k = e) ∨ (0 < M' ∧ j + 1 < e + 1 - p) := fun M' D' g' os' I' => by
      by_cases h1 : j + 1 < e + 1 - p
      · exact .inr ⟨I'.pos (by omega) (by rw [HSL.out]; exact h1), h1⟩
      · exact .inl ⟨I'.zero (by rw [HSL.out]; omega), by omega⟩
    have hk1 : ((p + (j + 1) : Nat) : Int) = (k : Int) + 1 := by omega
    have HK1 := Lib.hid hk1
    clear hr hx hk I hk1
    rcases hnx with ⟨hk0, g2, os2, I2⟩ | ⟨hk0, hM, g2, os2, I2⟩ | ⟨hk0, g2, os2, I2⟩
    · rw [hk0] at c0
      have HI := Lib.hid I2
      rcases hfin _ _ _ _ I2 with ⟨h1, -⟩ | ⟨h1, h2⟩
      · omega
      · have e1 : ((M : Int) + 1 == 0) = false := by simp; omega
        have e1' : ¬ (M : Int) + 1 = 0 := by omega
        clear hfin I2 hk0
        go_wp2_with fail
        exact ⟨⟨j + 1, M + 1, _, _, _, by rw [HK1.out], by go_num, h2, HI.out, trivial⟩, by simp [intOf]; omega⟩
    · rw [hk0] at c0
      have HI := Lib.hid I2
      have e0 : (M : Int) - 1 = ((M - 1 : Nat) : Int) := by omega
      rcases hfin _ _ _ _ I2 with ⟨h1, h2⟩ | ⟨h1, h2⟩
      · have hM1 : M = 1 := by omega
        subst hM1
        subst h2
        clear hfin I2 hk0 e0
        go_wp2_with fail
        go_ret
        exact ⟨rfl, rfl⟩
      · have e1 : (((M - 1 : Nat) : Int) == 0) = false := by simp; omega
        have e1' : ¬ ((M - 1 : Nat) : Int) = 0 := by omega
        clear hfin I2 hk0
        go_wp2_with fail
        exact ⟨⟨j + 1, M - 1, _, _, _, by rw [HK1.out], by first | rfl | go_num, h2, HI.out, trivial⟩, by simp [intOf]; omega⟩
    · rw [hk0] at c0
      have HI := Lib.hid I2
      rcases hfin _ _ _ _ I2 with ⟨h1, h2⟩ | ⟨h1, h2⟩
      · subst h1
        subst h2
        clear hfin I2 hk0
        go_wp2_with fail
        go_ret
        exact ⟨rfl, rfl⟩
      · have e1 : ((M : Int) == 0) = false := by simp; omega
        have e1' : ¬ (M : Int) = 0 := by omega
        clear hfin I2 hk0
        go_wp2_with fail
        exact ⟨⟨j + 1, M, _, _, _, by rw [HK1.out], rfl, h2, HI.out, trivial⟩, by simp [intOf]; omega⟩
set_option maxRecDepth 100000 in
set_option maxHeartbeats 4000000 in
theorem ref16_at (B : Nat) (es : List Evt) (v : Value) (i : Int) (w : World) (hr : EvsR B w v es) (hB : B ≤ w.heap.size) (hn : es.length ≤ 1000000) (hz : ∀ e ∈ es, e.at_.length ≤ 140737488351232) :
    Calls Try.prog 107 #[v, .int .i64 i] w fun r w' => r = .returned (.bool (atP es i).isSome) ∧ Below w.heap.size w w' := by
  have HW := Lib.hid (ref16_Whole B es v w hr hB hn hz)
  obtain ⟨avs, ⟨a, cap, rfl, -⟩, -⟩ := id hr
  obtain ⟨n, hnn⟩ : ∃ n, es.length = n := ⟨_, rfl⟩
  have HN := Lib.hid hnn
  rw [hnn] at hr hn HW ⊢
  clear hnn hz
  by_cases h0 : 0 ≤ i
  · have d0 := decide_eq_true h0
    obtain ⟨p, rfl⟩ : ∃ p : Nat, i = (p : Int) := ⟨i.toNat, by omega⟩
    by_cases h1 : p < n
    · have d1 := decide_eq_true (show (p : Int) < (n : Int) by omega)
      obtain ⟨x, hx⟩ : ∃ x, es[p]? = some x := ⟨_, List.getElem?_eq_getElem (by rw [HN.out]; exact h1)⟩
      obtain ⟨b, off, cap', av, hv, hbB, c0, -⟩ := hr.get (Below.refl B w) (Nat.le_refl _) p x hx
      rw [HN.out] at hv
      cases hv
      by_cases hk : x.k = 0
      · have hR : (atP es (p : Int)).isSome = (growP es).isSome := by
          unfold atP
          rw [if_pos ⟨by omega, by rw [HN.out]; omega, by rw [Int.toNat_natCast, hx, ← hk]; rfl⟩]
        rw [hR]
        rw [hk] at c0
        clear hr hx hR
        go_enter Try.func107, Try.ntmps107
        go_wp2_with fail
        refine (HW.out).mono ?_
        rintro r w1 ⟨rfl, hb⟩
        go_wp2_with fail
        go_ret
        exact ⟨rfl, hb⟩
      · have hR : (atP es (p : Int)).isSome = false := by
          unfold atP
          rw [if_neg (fun h => hk (by have h := h.2.2; rw [Int.toNat_natCast, hx] at h; simpa using h))]
          rfl
        have q0 : (x.k == 0) = false := by simpa using hk
        rw [hR]
        clear hr hx hR HW
        go_enter Try.func107, Try.ntmps107
        go_wp2_with fail
        go_ret
        exact ⟨rfl, Below.refl _ _⟩
    · have d1 := decide_eq_false (show ¬ (p : Int) < (n : Int) by omega)
      have hR : (atP es (p : Int)).isSome = false := by
        unfold atP
        rw [if_neg (fun h => h1 (by have h := h.2.1; rw [HN.out] at h; omega))]
        rfl
      rw [hR]
      clear hr hR HW
      go_enter Try.func107, Try.ntmps107
      go_wp2_with fail
      go_ret
      exact ⟨rfl, Below.refl _ _⟩
  · have d0 := decide_eq_false h0
    have hR : (atP es i).isSome = false := by
      unfold atP
      rw [if_neg (fun h => h0 h.1)]
      rfl
    rw [hR]
    clear hr hR HW
    go_enter Try.func107, Try.ntmps107
    go_wp2_with fail
    go_ret
    exact ⟨rfl, Below.refl _ _⟩
set_option maxRecDepth 100000 in
theorem ref16_End (B : Nat) (es : List Evt) (v : Value) (i : Int) (w : World) (hr : EvsR B w v es) (hB : B ≤ w.heap.size) (hn : es.length ≤ 1000000) (hz : ∀ e ∈ es, e.at_.length ≤ 140737488351232) :
    Calls Try.prog 121 #[v, .int .i64 i] w fun r w' => EndS w w' (atP es i) i r := by
  have hA := ref16_at B es v i w hr hB hn hz
  obtain ⟨R, hR⟩ : ∃ R, atP es i = R := ⟨_, rfl⟩
  rw [hR] at hA ⊢
  have HA := Lib.hid hA
  clear hA
  cases R with
  | none =>
    go_enter Try.func121, Try.ntmps121
    go_wp2_with fail
    refine (HA.out).mono ?_
    rintro r w1 ⟨rfl, hb⟩
    go_wp2_with fail
    go_ret2
    exact ⟨hb, rfl⟩
  | some g =>
    obtain ⟨hG, hN, hcell, p, e, rfl, hE, hEn, hpe, he⟩ := atP_nest hR
    have HM := Lib.hid (fun (u : World) (hu : Below w.heap.size w u) => ref16_match B es v g p e u (hr.below hu hB) hn hG hE)
    have HEV := Lib.hid (endV_some hcell hE).1
    clear hR hG hN hcell hE hEn hr
    go_enter Try.func121, Try.ntmps121
    go_wp2_with fail
    refine (HA.out).mono ?_
    rintro r w1 ⟨rfl, hb⟩
    go_wp2_with fail
    refine (HM.out _ hb).mono ?_
    rintro r w2 ⟨rfl, rfl⟩
    go_wp2_with fail
    go_ret2
    refine ⟨hb, ?_⟩
    show _ = Ending.returned (.tuple #[endV g p, .bool true])
    rw [HEV.out]
    rfl
set_option maxRecDepth 100000 in
set_option maxHeartbeats 4000000 in
theorem ref16_Kids (B : Nat) (es : List Evt) (v : Value) (i : Int) (w : World) (hr : EvsR B w v es) (hB : B ≤ w.heap.size) (hn : es.length ≤ 999999) (hz : ∀ e ∈ es, e.at_.length ≤ 140737488351232) :
    Calls Try.prog 74 #[v, .int .i64 i] w fun r w' => ∃ u, r = .returned u ∧ w'.ownsRow w.heap.size 3 1 u (kidsP es i).length ((natC (kidsP es i)).map (Value.int .i64)) ∧ Below w.heap.size w w' := by
  have hA := ref16_at B es v i w hr hB (by omega) hz
  obtain ⟨R, hR⟩ : ∃ R, atP es i = R := ⟨_, rfl⟩
  rw [hR] at hA
  have HA := Lib.hid hA
  clear hA
  cases R with
  | none =>
    have hk : kidsP es i = [] := by unfold kidsP; rw [hR]
    rw [hk]
    go_enter Try.func74, Try.ntmps74
    go_wp2_with fail
    refine (HA.out).mono ?_
    rintro r w1 ⟨rfl, hb⟩
    go_wp2_with fail
    go_ret
    exact ⟨_, rfl, World.ownsRow_nil _ _ _ _, hb⟩
  | some g =>
    obtain ⟨hG, hN, hcell, p, e, rfl, hE, hEn, hpe, he⟩ := atP_nest hR
    rw [kidsP_of hG hE]
    have HM := Lib.hid (fun (q j : Nat) (hq : endO g q = some j) (u : World) (hu : Below w.heap.size w u) => ref16_match B es v g q j u (hr.below hu hB) (by omega) hG hq)
    obtain ⟨avs, ⟨a, cap, rfl, -⟩, -⟩ := id hr
    obtain ⟨n, hnn⟩ : ∃ n, es.length = n := ⟨_, rfl⟩
    have HN := Lib.hid hnn
    rw [hnn] at hr hn HM HA he ⊢
    have HNest := Lib.hid hN
    have HE := Lib.hid hE
    obtain ⟨K, hK⟩ : ∃ K, kidsL (endO g) p e = K := ⟨_, rfl⟩
    have hKz : K.length ≤ 999999 := by
      rw [← hK]
      have h1 := kidF_len (E := endO g) (e := e) (fun p j h => (hN.lt p j h).1) e (p + 1)
      unfold kidsL
      omega
    rw [hK]
    have HK := Lib.hid hK
    clear hR hG hN hcell hE hEn hz hnn hK
    go_enter Try.func74, Try.ntmps74
    go_wp2_with fail
    refine (HA.out).mono ?_
    rintro r w1 ⟨rfl, hb⟩
    go_wp2_with fail
    refine (HM.out p e HE.out _ hb).mono ?_
    rintro r w2 ⟨rfl, rfl⟩
    go_wp2_with fail
    go_loopw [5, 7] (fun o i wr => ∃ (k f : Nat) (pre : List Nat), i = .int .i64 k ∧ p + 1 ≤ k ∧ k ≤ e + 1 ∧ Hid (e ≤ k + f ∧ K = pre ++ kidF (endO g) e f k) ∧ wr.ownsRow w.heap.size 3 1 o pre.length ((natC pre).map (Value.int .i64)) ∧ Below w.heap.size w wr) (fun _ i _ => e + 1 - (intOf i).toNat)
    case atStart => exact ⟨p + 1, e, [], by go_num, Nat.le_refl _, by omega, Lib.hid ⟨by omega, by rw [List.nil_append]; exact HK.out.symm⟩, World.ownsRow_nil _ _ _ _, hb⟩
    case round =>
      obtain ⟨k, f, pre, rfl, hpk, hke, HF, hrow, hbl⟩ := hrel
      obtain ⟨va, vl, vc, rfl⟩ := own_slice hrow
      have hpl : pre.length ≤ 999999 := by
        have h1 := congrArg List.length HF.out.2
        rw [List.length_append] at h1
        omega
      by_cases hlt : k < e
      · have hd := decide_eq_true (show (k : Int) < (e : Int) by omega)
        obtain ⟨hf1, hf2⟩ := HF.out
        obtain ⟨f', rfl⟩ : ∃ f', f = f' + 1 := ⟨f - 1, by omega⟩
        rw [kidF, if_pos hlt] at hf2
        obtain ⟨x, hx⟩ : ∃ x, es[k]? = some x := ⟨_, List.getElem?_eq_getElem (by rw [HN.out]; omega)⟩
        obtain ⟨b, off, cap', av, hv, hbB, c0, -⟩ := hr.get hbl hB k x hx
        rw [HN.out] at hv
        cases hv
        have hkn : k < n := by omega
        cases hek : endO g k with
        | none =>
          rw [hek] at hf2
          have q0 : (x.k == 0) = false := by
            have : ¬ x.k = 0 := fun h => by
              obtain ⟨j, hj⟩ := (HNest.out.start k).1 (by rw [hx, ← h]; rfl)
              rw [hek] at hj
              cases hj
            simpa using this
          have HF2 := Lib.hid (And.intro (show e ≤ k + 1 + f' by omega) hf2)
          have HRow := Lib.hid hrow
          clear hr hx hf1 hf2 HF hek hrow
          go_wp2_with fail
          exact ⟨⟨k + 1, f', pre, by go_num, by omega, by omega, HF2, HRow.out, hbl⟩, by simp [intOf]; omega⟩
        | some j =>
          rw [hek] at hf2
          obtain ⟨hkj, hjl, x', y', hx', -, hk0, -⟩ := HNest.out.lt k j hek
          rw [hx] at hx'
          injection hx' with hx'
          subst hx'
          rw [hk0] at c0
          have hje : j < e := by rcases HNest.out.lam p e k j HE.out hek (by omega) with h | h <;> omega
          obtain ⟨v', w4, hrn, hro, hb4, -⟩ := app_int wr w.heap.size (.slice va vl vc) _ _ hrow (k : Int) (by omega) hbl.size
          have HR := Lib.hid hrn
          have HF2 : Hid (e ≤ j + 1 + f' ∧ K = (pre ++ [k]) ++ kidF (endO g) e f' (j + 1)) := Lib.hid ⟨by omega, by rw [List.append_assoc]; exact hf2⟩
          have HRow : Hid (w4.ownsRow w.heap.size 3 1 v' (pre ++ [k]).length ((natC (pre ++ [k])).map (Value.int .i64))) := Lib.hid (by rw [natC_snoc, List.length_append]; exact hro)
          have hbw := hbl.trans hb4
          have HMM := Lib.hid (HM.out k j hek _ hbw)
          clear hr hx hf1 hf2 HF hek hrow hro hrn hb4 hk0
          go_wp2_with (at_builtin; refine wpList_append_run rfl _ _ _ _ rfl _ _ rfl rfl _ _ HR.out ?_)
          refine (HMM.out).mono ?_
          rintro r w5 ⟨rfl, rfl⟩
          go_wp2_with fail
          exact ⟨⟨j + 1, f', _, by go_num, by omega, by omega, HF2, HRow.out, hbw⟩, by simp [intOf]; omega⟩
      · have hd := decide_eq_false (show ¬ (k : Int) < (e : Int) by omega)
        have hfin : K = pre := by rw [HF.out.2, kidF_end _ _ _ _ (by omega), List.append_nil]
        have HRow := Lib.hid hrow
        have HFin := Lib.hid hfin
        clear hr hrow hfin HF
        go_wp2_with fail
        go_ret
        exact ⟨_, rfl, by rw [HFin.out]; exact HRow.out, hbl⟩
end Go.Proofs.Yteefopeclfojiaa
/- 
  Layer 16: the walks of the document's First, Text, Attr.
 -/
namespace Go.Proofs.Yteefopeclfojiaa
open Go.RowKit
/-- the first child of a name. -/
def fstP (es : List Evt) (i : Int) (n : ByteArray × ByteArray) : Option Nat := (kidsP es i).find? fun k => decide ((es[k]?).map Evt.n = some n)
/-- what First comes to. -/
def FirstS (w w' : World) (R : Option Nat) (r : Ending) : Prop := Below w.heap.size w w' ∧ match R with
  | none => r = .returned (.tuple #[.int .i64 0, .bool false])
  | some k => r = .returned (.tuple #[.int .i64 (k : Int), .bool true])
/-- the first of a list's members from j on. -/
theorem find_drop {α : Type} {P : α → Bool} {l : List α} {j : Nat} {x : α} (hx : l[j]? = some x) : (l.drop j).find? P = if P x then some x else (l.drop (j + 1)).find? P := by
  have hdr : l.drop j = x :: l.drop (j + 1) := by
    obtain ⟨e1, e2⟩ := List.getElem?_eq_some_iff.1 hx
    rw [← e2, List.drop_eq_getElem_cons e1]
  rw [hdr, List.find?_cons]
  cases P x <;> rfl
theorem nm_ne {a b : ByteArray × ByteArray} (h : ¬ a = b) : (a.1.toList == b.1.toList) = false ∨ ((a.1.toList == b.1.toList) = true ∧ (a.2.toList == b.2.toList) = false) := by
  by_cases h1 : a.1 = b.1
  · exact .inr ⟨by rw [h1]; simp, toL_ne fun h2 => h (Prod.ext h1 h2)⟩
  · exact .inl (toL_ne h1)
theorem kidsP_mem {es : List Evt} {i : Int} {x : Nat} (h : x ∈ kidsP es i) : x < es.length := by
  unfold kidsP at h
  cases hR : atP es i with
  | none => rw [hR] at h; cases h
  | some g =>
    obtain ⟨hG, hN, hcell, p, e, rfl, hE, hEn, hpe, he⟩ := atP_nest hR
    rw [hR] at h
    simp only [Int.toNat_natCast, hEn] at h
    obtain ⟨k, hk, hx⟩ := List.getElem_of_mem h
    obtain ⟨jx, hka⟩ := kidAt (k := k) (x := x) hN hE (by rw [List.getElem?_eq_getElem hk, hx])
    have h1 := hka.lt
    have h2 := hka.end_
    omega
theorem kidsP_len (es : List Evt) (i : Int) : (kidsP es i).length ≤ es.length := by
  unfold kidsP
  cases hR : atP es i with
  | none => exact Nat.zero_le _
  | some g =>
    obtain ⟨hG, hN, hcell, p, e, rfl, hE, hEn, hpe, he⟩ := atP_nest hR
    simp only [Int.toNat_natCast, hEn]
    have h1 := kidF_len (E := endO g) (e := e) (fun p j h => (hN.lt p j h).1) e (p + 1)
    unfold kidsL
    omega
/-- a row of children, cell by cell. -/
theorem kid_row {w : World} {base : Nat} {u : Value} {K : List Nat} (h : w.ownsRow base 3 1 u K.length ((natC K).map (Value.int .i64))) : ∃ a c, u = .slice a K.length c ∧ ∀ (j x : Nat), K[j]? = some x → ∃ g, a = some ⟨g, 0, none⟩ ∧ w.cell? ⟨g, j, none⟩ = some (.int .i64 (x : Int)) := by
  rcases h.2 with ⟨rfl, h2⟩ | ⟨g, cp, cur, rfl, h2, h3, h4, -⟩
  · refine ⟨none, 0, by rw [h2], fun j x hx => ?_⟩
    rw [List.eq_nil_of_length_eq_zero h2] at hx
    simp at hx
  · refine ⟨_, cp, rfl, fun j x hx => ⟨g, rfl, ?_⟩⟩
    have h1 := h.cells (g := g) rfl j (.int .i64 (x : Int)) (by unfold natC; rw [List.map_map, List.getElem?_map, hx]; rfl)
    rwa [addr0, Nat.zero_add] at h1
set_option maxRecDepth 100000 in
set_option maxHeartbeats 4000000 in
theorem ref16_First (B : Nat) (es : List Evt) (v : Value) (i : Int) (nm : ByteArray × ByteArray) (w : World) (hr : EvsR B w v es) (hB : B ≤ w.heap.size) (hn : es.length ≤ 999999) (hz : ∀ e ∈ es, e.at_.length ≤ 140737488351232) :
    Calls Try.prog 111 #[v, .int .i64 i, .agg #[.string nm.1, .string nm.2]] w fun r w' => FirstS w w' (fstP es i nm) r := by
  obtain ⟨avs, ⟨a, cap, rfl, -⟩, -⟩ := id hr
  have hb0 := (Below.refl w.heap.size w).alloc (Nat.le_refl _) (.cells #[.string nm.1, .string nm.2] 24)
  have bX0 := BlkAt.new w #[.string nm.1, .string nm.2] 24
  have HK := ref16_Kids B es _ i _ (hr.below hb0 hB) (Nat.le_trans hB hb0.size) hn hz
  obtain ⟨n, hnn⟩ : ∃ n, es.length = n := ⟨_, rfl⟩
  have HN := Lib.hid hnn
  rw [hnn] at hr hn HK ⊢
  unfold fstP
  have hkm : ∀ x ∈ kidsP es i, x < n := fun x hx => by rw [← hnn]; exact kidsP_mem hx
  have hkl := kidsP_len es i
  rw [hnn] at hkl
  obtain ⟨K, hK⟩ : ∃ K, kidsP es i = K := ⟨_, rfl⟩
  rw [hK] at HK hkm hkl ⊢
  obtain ⟨R, hR⟩ : ∃ R, (K.find? fun k => decide ((es[k]?).map Evt.n = some nm)) = R := ⟨_, rfl⟩
  rw [hR]
  have HR0 := Lib.hid (show R = (K.drop 0).find? fun k => decide ((es[k]?).map Evt.n = some nm) from hR.symm)
  have HK := Lib.hid HK
  have HKM := Lib.hid hkm
  clear hnn hz hK hR hkm
  go_enter Try.func111, Try.ntmps111
  go_wp2_with fail
  refine (HK.out).mono ?_
  rintro r w1 ⟨u, rfl, hrow, hb1⟩
  have bX := bX0.below hb1 bX0.lt
  have hbw := bt hb0 hb1
  obtain ⟨ka, kc, rfl, hcells⟩ := kid_row hrow
  obtain ⟨m, hm⟩ : ∃ m, K.length = m := ⟨_, rfl⟩
  have HM := Lib.hid hm
  rw [hm] at hkl ⊢
  have HC := Lib.hid hcells
  have f0 : w1.cell? ⟨w.heap.size, 0, none⟩ = some (Value.string nm.1) := bX.cell 0 rfl
  have f1 : w1.cell? ⟨w.heap.size, 1, none⟩ = some (Value.string nm.2) := bX.cell 1 rfl
  clear hrow hcells hm HK bX0 hb0 hb1 bX
  go_wp2_with fail
  go_loopw [9] (fun i wr => ∃ j q : Nat, i = .int .i64 j ∧ j ≤ m ∧ Hid (R = (K.drop j).find? fun k => decide ((es[k]?).map Evt.n = some nm)) ∧ wr = w1.drewN q) (fun i _ => m - (intOf i).toNat)
  case atStart => exact ⟨0, 0, rfl, by omega, HR0, rfl⟩
  case round =>
    obtain ⟨j, q, rfl, hj, HF, rfl⟩ := hrel
    by_cases hlt : j < m
    · have hd := decide_eq_true (show (j : Int) < (m : Int) by omega)
      obtain ⟨x, hx⟩ : ∃ x, K[j]? = some x := ⟨_, List.getElem?_eq_getElem (by rw [HM.out]; exact hlt)⟩
      obtain ⟨g, hga, kcell⟩ := HC.out j x hx
      subst hga
      have hxn := HKM.out x (List.mem_of_getElem? hx)
      obtain ⟨y, hy⟩ : ∃ y, es[x]? = some y := ⟨_, List.getElem?_eq_getElem (by rw [HN.out]; exact hxn)⟩
      obtain ⟨b, off, cap', av, hv, hbB, c0, c1, c2, -⟩ := hr.get hbw hB x y hy
      rw [HN.out] at hv
      cases hv
      have hfd := find_drop (P := fun k => decide ((es[k]?).map Evt.n = some nm)) hx
      simp only [hy, Option.map_some, Option.some.injEq, decide_eq_true_eq] at hfd
      by_cases hnm : y.n = nm
      · rw [if_pos hnm] at hfd
        have HR := Lib.hid (HF.out.trans hfd)
        rw [hnm] at c1 c2
        have t1 := toL_self nm.1
        have t2 := toL_self nm.2
        clear hr hx hy hfd
        go_wp2_with fail
        go_quiet (fail)
        have kcell2 : ((w1.drewN q).drewN nq).cell? ⟨g, j, none⟩ = some (.int .i64 (x : Int)) := kcell
        go_wp2_with fail
        go_ret2
        refine ⟨below_dn hbw _, ?_⟩
        rw [HR.out]
        rfl
      · rw [if_neg hnm] at hfd
        have HR := Lib.hid (HF.out.trans hfd)
        have hne := nm_ne hnm
        clear hr hx hy hfd hnm
        rcases hne with g1 | ⟨g1, g2⟩
        all_goals
          go_wp2_with fail
          go_quiet (fail)
          go_wp2_with fail
          exact ⟨⟨j + 1, q + nq, by go_num, by omega, HR, by simp [World.drewN]⟩, by simp [intOf]; omega⟩
    · have hd := decide_eq_false (show ¬ (j : Int) < (m : Int) by omega)
      have HR := Lib.hid (show R = none by rw [HF.out, List.drop_eq_nil_of_le (by rw [HM.out]; omega)]; rfl)
      clear hr
      go_wp2_with fail
      go_ret2
      refine ⟨below_dn hbw _, ?_⟩
      rw [HR.out]
      rfl
theorem strAppTx (l : List Int) (s : ByteArray) : strOfNums l ++ s = strOfNums (l ++ nums s) := by rw [← strOfNums_app, strOfNums_nums]
set_option maxRecDepth 100000 in
set_option maxHeartbeats 4000000 in
theorem ref16_Text (B : Nat) (es : List Evt) (v : Value) (i : Int) (w : World) (hr : EvsR B w v es) (hB : B ≤ w.heap.size) (hn : es.length ≤ 1000000) (hz : ∀ e ∈ es, e.at_.length ≤ 140737488351232) (ht : (txsL es).length < 140737488355329) :
    Calls Try.prog 93 #[v, .int .i64 i] w fun r w' => r = .returned (.string (strOfNums (textP es i))) ∧ Below w.heap.size w w' := by
  have hA := ref16_at B es v i w hr hB hn hz
  obtain ⟨R, hR⟩ : ∃ R, atP es i = R := ⟨_, rfl⟩
  rw [hR] at hA
  have HA := Lib.hid hA
  clear hA
  cases R with
  | none =>
    have hk : textP es i = [] := by unfold textP; rw [hR]
    rw [hk, strOfNums_nil]
    go_enter Try.func93, Try.ntmps93
    go_wp2_with fail
    refine (HA.out).mono ?_
    rintro r w1 ⟨rfl, hb⟩
    go_wp2_with fail
    go_ret
    exact ⟨rfl, hb⟩
  | some g =>
    obtain ⟨hG, hN, hcell, p, e, rfl, hE, hEn, hpe, he⟩ := atP_nest hR
    rw [textP_of hG hE, show txsL ((es.drop p).take (e - p)) = segL es p e from rfl]
    have HM := Lib.hid (fun (u : World) (hu : Below w.heap.size w u) => ref16_match B es v g p e u (hr.below hu hB) (by omega) hG hE)
    obtain ⟨avs, ⟨a, cap, rfl, -⟩, -⟩ := id hr
    obtain ⟨n, hnn⟩ : ∃ n, es.length = n := ⟨_, rfl⟩
    have HN := Lib.hid hnn
    rw [hnn] at hr hn HM HA he ⊢
    clear hR hG hN hcell hE hEn hz hnn
    go_enter Try.func93, Try.ntmps93
    go_wp2_with fail
    refine (HA.out).mono ?_
    rintro r w1 ⟨rfl, hb⟩
    go_wp2_with fail
    refine (HM.out _ hb).mono ?_
    rintro r w2 ⟨rfl, rfl⟩
    go_wp2_with fail
    go_loopw [5, 7] (fun o i wr => ∃ t : Nat, i = .int .i64 t ∧ p ≤ t ∧ t ≤ e ∧ o = .string (strOfNums (segL es p t)) ∧ wr = w1) (fun _ i _ => e - (intOf i).toNat)
    case atStart => exact ⟨p, rfl, Nat.le_refl _, by omega, by rw [segL_same, strOfNums_nil], rfl⟩
    case round =>
      obtain ⟨t, rfl, ht1, ht2, rfl, rfl⟩ := hrel
      by_cases htx : t < e
      · have s1 := decide_eq_true (show (t : Int) < (e : Int) by omega)
        obtain ⟨y, hy⟩ : ∃ y, es[t]? = some y := ⟨_, List.getElem?_eq_getElem (by rw [HN.out]; omega)⟩
        obtain ⟨b', off', cap', av', hv', -, c0, c1, c2, c3, c4, -⟩ := hr.get hb hB t y hy
        rw [HN.out] at hv'
        cases hv'
        have htn : t < n := by omega
        have hz1 := segL_le es p t
        have hz4 := txsL_mem (List.mem_of_getElem? hy)
        have ha1 : strOfNums (segL es p t) ++ y.tx = strOfNums (segL es p (t + 1)) := by rw [strAppTx, segL_step ht1 hy]
        have hq1 : ¬ (9223372036854775807 : Nat) < (strOfNums (segL es p t)).size + y.tx.size := by rw [strOfNums_size]; omega
        obtain ⟨S1, hS1⟩ : ∃ s, strOfNums (segL es p t) = s := ⟨_, rfl⟩
        rw [hS1] at ha1 hq1 ⊢
        have HA1 := Lib.hid ha1
        clear ha1 hS1 hz1 hz4 hy hr
        go_wp2_with fail
        exact ⟨⟨t + 1, by go_num, by omega, by omega, by rw [HA1.out], trivial⟩, by simp [intOf]; omega⟩
      · have s1 := decide_eq_false (show ¬ (t : Int) < (e : Int) by omega)
        have htx2 : t = e := by omega
        subst htx2
        clear hr
        go_wp2_with fail
        go_ret
        exact ⟨rfl, hb⟩
/-- an attribute of a name. -/
def attF (l : List AtT) (nm : ByteArray × ByteArray) : Option ByteArray := (l.find? fun a => decide (a.1 = nm)).map fun a => a.2
def attrP (es : List Evt) (i : Int) (nm : ByteArray × ByteArray) : Option ByteArray := match atP es i with
  | none => none
  | some _ => attF (((es[i.toNat]?).map Evt.at_).getD []) nm
/-- what Attr comes to. -/
def AttrS (w w' : World) (R : Option ByteArray) (r : Ending) : Prop := Below w.heap.size w w' ∧ match R with
  | none => r = .returned (.tuple #[.string ⟨#[]⟩, .bool false])
  | some s => r = .returned (.tuple #[.string s, .bool true])
set_option maxRecDepth 100000 in
set_option maxHeartbeats 4000000 in
theorem ref16_Attr (B : Nat) (es : List Evt) (v : Value) (i : Int) (nm : ByteArray × ByteArray) (w : World) (hr : EvsR B w v es) (hB : B ≤ w.heap.size) (hn : es.length ≤ 1000000) (hz : ∀ e ∈ es, e.at_.length ≤ 1000000) :
    Calls Try.prog 80 #[v, .int .i64 i, .agg #[.string nm.1, .string nm.2]] w fun r w' => AttrS w w' (attrP es i nm) r := by
  have hb0 := (Below.refl w.heap.size w).alloc (Nat.le_refl _) (.cells #[.string nm.1, .string nm.2] 24)
  have bX0 := BlkAt.new w #[.string nm.1, .string nm.2] 24
  have hA := ref16_at B es v i _ (hr.below hb0 hB) (Nat.le_trans hB hb0.size) hn fun e he => by have := hz e he; omega
  unfold attrP
  obtain ⟨R, hR⟩ : ∃ R, atP es i = R := ⟨_, rfl⟩
  rw [hR] at hA ⊢
  have HA := Lib.hid hA
  clear hA
  cases R with
  | none =>
    go_enter Try.func80, Try.ntmps80
    go_wp2_with fail
    refine (HA.out).mono ?_
    rintro r w1 ⟨rfl, hb⟩
    go_wp2_with fail
    go_ret2
    exact ⟨bt hb0 hb, rfl⟩
  | some g =>
    obtain ⟨hG, hN, hcell, p, e, rfl, hE, hEn, hpe, he⟩ := atP_nest hR
    obtain ⟨avs, ⟨a, cap, rfl, -⟩, -⟩ := id hr
    obtain ⟨x, hx⟩ : ∃ x, es[p]? = some x := ⟨_, List.getElem?_eq_getElem (by omega)⟩
    have hxz := hz x (List.mem_of_getElem? hx)
    simp only [Int.toNat_natCast, hx, Option.map_some, Option.getD_some]
    obtain ⟨n, hnn⟩ : ∃ n, es.length = n := ⟨_, rfl⟩
    have HN := Lib.hid hnn
    rw [hnn] at hr hn HA he ⊢
    have hpn : p < n := by omega
    obtain ⟨T, hT⟩ : ∃ T, attF x.at_ nm = T := ⟨_, rfl⟩
    rw [hT]
    have HT0 := Lib.hid (show T = ((x.at_.drop 0).find? fun a => decide (a.1 = nm)).map fun a => a.2 from hT.symm)
    clear hR hG hN hcell hE hEn hz hnn hT
    go_enter Try.func80, Try.ntmps80
    go_wp2_with fail
    refine (HA.out).mono ?_
    rintro r w1 ⟨rfl, hb⟩
    have bX := bX0.below hb bX0.lt
    have hbw := bt hb0 hb
    obtain ⟨b', off', cap', av', hv', -, c0, c1, c2, c3, c4, hav⟩ := hr.get hbw hB p x hx
    rw [HN.out] at hv'
    cases hv'
    obtain ⟨aa, ac, rfl, -⟩ := id hav
    obtain ⟨m, hm⟩ : ∃ m, x.at_.length = m := ⟨_, rfl⟩
    have HM := Lib.hid hm
    rw [hm] at hav c3 hxz
    have f0 : w1.cell? ⟨w.heap.size, 0, none⟩ = some (Value.string nm.1) := bX.cell 0 rfl
    have f1 : w1.cell? ⟨w.heap.size, 1, none⟩ = some (Value.string nm.2) := bX.cell 1 rfl
    have HX := Lib.hid hx
    clear hm bX bX0 hb0 hb hr hx c0 c1 c2 c4
    go_wp2_with fail
    go_loopw [8] (fun i wr => ∃ j q : Nat, i = .int .i64 j ∧ j ≤ m ∧ Hid (T = ((x.at_.drop j).find? fun a => decide (a.1 = nm)).map fun a => a.2) ∧ wr = w1.drewN q) (fun i _ => m - (intOf i).toNat)
    case atStart => exact ⟨0, 0, rfl, by omega, HT0, rfl⟩
    case round =>
      obtain ⟨j, q, rfl, hj, HF, rfl⟩ := hrel
      have d3 : (w1.drewN q).cell? ⟨b', off' + p * 5 + 3, none⟩ = some (Value.slice aa m ac) := c3
      by_cases hlt : j < m
      · have hd := decide_eq_true (show (j : Int) < (m : Int) by omega)
        obtain ⟨y, hy⟩ : ∃ y, x.at_[j]? = some y := ⟨_, List.getElem?_eq_getElem (by rw [HM.out]; exact hlt)⟩
        obtain ⟨b2, o2, cp2, hv2, p0, p1, p2⟩ := hav.attr (Below.refl B w1) (Nat.le_refl _) j y hy
        cases hv2
        have hfd := find_drop (P := fun a : AtT => decide (a.1 = nm)) hy
        simp only [decide_eq_true_eq] at hfd
        by_cases hnm : y.1 = nm
        · rw [if_pos hnm] at hfd
          have HR := Lib.hid (show T = some y.2 by rw [HF.out, hfd]; rfl)
          rw [hnm] at p0 p1
          have t1 := toL_self nm.1
          have t2 := toL_self nm.2
          clear hav hy hfd
          go_wp2_with fail
          go_quiet (fail)
          have e3 : ((w1.drewN q).drewN nq).cell? ⟨b', off' + p * 5 + 3, none⟩ = some (Value.slice (some ⟨b2, o2, none⟩) m ac) := c3
          have e4 : ((w1.drewN q).drewN nq).cell? ⟨b2, o2 + j * 3 + 2, none⟩ = some (Value.string y.2) := p2
          go_wp2_with fail
          go_ret2
          refine ⟨below_dn hbw _, ?_⟩
          rw [HR.out]
          rfl
        · rw [if_neg hnm] at hfd
          have HR := Lib.hid (show T = ((x.at_.drop (j + 1)).find? fun a => decide (a.1 = nm)).map fun a => a.2 by rw [HF.out, hfd])
          have hne := nm_ne hnm
          clear hav hy hfd hnm
          rcases hne with g1 | ⟨g1, g2⟩
          all_goals
            go_wp2_with fail
            go_quiet (fail)
            go_wp2_with fail
            exact ⟨⟨j + 1, q + nq, by go_num, by omega, HR, by simp [World.drewN]⟩, by simp [intOf]; omega⟩
      · have hd := decide_eq_false (show ¬ (j : Int) < (m : Int) by omega)
        have HR := Lib.hid (show T = none by rw [HF.out, List.drop_eq_nil_of_le (by rw [HM.out]; omega)]; rfl)
        clear hav
        go_wp2_with fail
        go_ret2
        refine ⟨below_dn hbw _, ?_⟩
        rw [HR.out]
        rfl
end Go.Proofs.Yteefopeclfojiaa
/- 
  Layer 16: the walk of events.Attr.
 -/
namespace Go.Proofs.Yteefopeclfojiaa
open Go.RowKit
def idxF : List AtT → ByteArray × ByteArray → Option Nat
  | [], _ => none
  | a :: r, nm => if a.1 = nm then some 0 else (idxF r nm).map (· + 1)
theorem idxF_some : ∀ {l : List AtT} {nm : ByteArray × ByteArray} {i : Nat}, idxF l nm = some i → ∃ a, l[i]? = some a ∧ attF l nm = some a.2
  | [], _, _, h => by cases h
  | a :: r, nm, i, h => by
    rw [idxF] at h
    unfold attF
    rw [List.find?_cons]
    split at h
    · rename_i hn
      injection h with h
      subst h
      exact ⟨a, rfl, by rw [decide_eq_true hn]; rfl⟩
    · rename_i hn
      obtain ⟨j, hj, rfl⟩ := Option.map_eq_some_iff.1 h
      obtain ⟨b, hb, hb2⟩ := idxF_some hj
      refine ⟨b, by simpa using hb, ?_⟩
      rw [decide_eq_false hn]
      exact hb2
theorem idxF_none : ∀ {l : List AtT} {nm : ByteArray × ByteArray}, idxF l nm = none → attF l nm = none
  | [], _, _ => rfl
  | a :: r, nm, h => by
    rw [idxF] at h
    unfold attF
    rw [List.find?_cons]
    split at h
    · cases h
    · rename_i hn
      have h2 : idxF r nm = none := by simpa using h
      rw [decide_eq_false hn]
      exact idxF_none h2
def idxI : Option Nat → Int
  | none => -1
  | some i => (i : Int)
set_option maxRecDepth 100000 in
theorem events_Attr1 (a : AtT) (q : Nat) (nm : ByteArray × ByteArray) (w : World) (h0 : w.cell? ⟨q, 0, none⟩ = some (.string nm.1)) (h1 : w.cell? ⟨q, 1, none⟩ = some (.string nm.2)) (hq : q < w.heap.size) :
    Calls Try.prog 127 #[.agg #[.string a.1.1, .string a.1.2, .string a.2], .pointer (some ⟨q, 0, none⟩)] w fun r w' => r = .returned (.bool (decide (a.1 = nm))) ∧ Below w.heap.size w w' := by
  obtain ⟨⟨a1, a2⟩, a3⟩ := a
  obtain ⟨n1, n2⟩ := nm
  simp only at h0 h1 ⊢
  have hb := (Below.refl w.heap.size w).alloc (Nat.le_refl _) (.cells #[.string a1, .string a2, .string a3] 58)
  have c0 : (w.alloc (.cells #[.string a1, .string a2, .string a3] 58)).cell? ⟨q, 0, none⟩ = some (.string n1) := (hb.cell (p := ⟨q, 0, none⟩) hq).trans h0
  have c1 : (w.alloc (.cells #[.string a1, .string a2, .string a3] 58)).cell? ⟨q, 1, none⟩ = some (.string n2) := (hb.cell (p := ⟨q, 1, none⟩) hq).trans h1
  by_cases hn : (a1, a2) = (n1, n2)
  · obtain ⟨e1, e2⟩ := Prod.mk.inj hn
    subst e1
    subst e2
    have t1 := toL_self a1
    have t2 := toL_self a2
    rw [decide_eq_true hn]
    clear hn h0 h1
    go_enter Try.func127, Try.ntmps127
    go_wp2_with fail
    go_ret
    exact ⟨rfl, hb⟩
  · rw [decide_eq_false hn]
    have hne := nm_ne hn
    simp only at hne
    clear hn h0 h1
    rcases hne with g1 | ⟨g1, g2⟩
    all_goals
      go_enter Try.func127, Try.ntmps127
      go_wp2_with fail
      go_ret
      exact ⟨rfl, hb⟩
set_option maxRecDepth 100000 in
theorem attr_IndexFunc (B : Nat) (l : List AtT) (v : Value) (q : Nat) (nm : ByteArray × ByteArray) (w : World) (hl : CReads B w v l.length (atC l)) (hB : B ≤ w.heap.size) (hn : l.length ≤ 1000000) (h0 : w.cell? ⟨q, 0, none⟩ = some (.string nm.1)) (h1 : w.cell? ⟨q, 1, none⟩ = some (.string nm.2)) (hq : q < w.heap.size) :
    Calls Try.prog 126 #[v, .func (.func 127) #[] #[.pointer (some ⟨q, 0, none⟩)]] w fun r w' => r = .returned (.int .i64 (idxI (idxF l nm))) ∧ Below w.heap.size w w' := by
  obtain ⟨a, cap, rfl, -⟩ := id hl
  obtain ⟨n, hnn⟩ : ∃ n, l.length = n := ⟨_, rfl⟩
  have HN := Lib.hid hnn
  rw [hnn] at hl hn ⊢
  clear hnn
  obtain ⟨R, hR⟩ : ∃ R, idxF l nm = R := ⟨_, rfl⟩
  rw [hR]
  have HR0 := Lib.hid (show R = (idxF (l.drop 0) nm).map (· + 0) by rw [← hR]; simp)
  clear hR
  go_enter Try.func126, Try.ntmps126
  go_wp2_with fail
  go_loopw [8] (fun i wr => ∃ k : Nat, i = .int .i64 k ∧ k ≤ n ∧ Hid (R = (idxF (l.drop k) nm).map (· + k)) ∧ Below w.heap.size w wr) (fun i _ => n - (intOf i).toNat)
  case atStart => exact ⟨0, rfl, by omega, HR0, Below.refl _ _⟩
  case round =>
    obtain ⟨k, rfl, hk, HQ, hbw⟩ := hrel
    by_cases hlt : k < n
    · have hd := decide_eq_true (show (k : Int) < (n : Int) by omega)
      obtain ⟨x, hx⟩ : ∃ x, l[k]? = some x := ⟨_, List.getElem?_eq_getElem (by rw [HN.out]; exact hlt)⟩
      have hdr : l.drop k = x :: l.drop (k + 1) := by
        obtain ⟨e1, e2⟩ := List.getElem?_eq_some_iff.1 hx
        rw [← e2, List.drop_eq_getElem_cons e1]
      obtain ⟨b2, o2, cp2, hv2, p0, p1, p2⟩ := hl.attr hbw hB k x hx
      cases hv2
      have H1 := events_Attr1 x q nm wr ((hbw.cell (p := ⟨q, 0, none⟩) hq).trans h0) ((hbw.cell (p := ⟨q, 1, none⟩) hq).trans h1) (Nat.lt_of_lt_of_le hq hbw.size)
      have hqq := HQ.out
      rw [hdr, idxF] at hqq
      by_cases hnm : x.1 = nm
      · rw [if_pos hnm] at hqq
        rw [decide_eq_true hnm] at H1
        have HR := Lib.hid (show idxI R = (k : Int) by rw [hqq]; simp [idxI])
        have H1 := Lib.hid H1
        clear hl hx hdr hqq hnm HQ h0 h1
        go_wp2_with fail
        refine (H1.out).mono ?_
        rintro r w3 ⟨rfl, hb3⟩
        go_wp2_with fail
        go_ret
        exact ⟨ret_int HR.out.symm, bt hbw hb3⟩
      · rw [if_neg hnm] at hqq
        rw [decide_eq_false hnm] at H1
        have HR := Lib.hid (show R = (idxF (l.drop (k + 1)) nm).map (· + (k + 1)) by
          rw [hqq, Option.map_map]
          congr 1
          funext i
          simp only [Function.comp]
          omega)
        have H1 := Lib.hid H1
        clear hl hx hdr hqq hnm HQ h0 h1
        go_wp2_with fail
        refine (H1.out).mono ?_
        rintro r w3 ⟨rfl, hb3⟩
        go_wp2_with fail
        exact ⟨⟨k + 1, by go_num, by omega, HR, bt hbw hb3⟩, by simp [intOf]; omega⟩
    · have hd := decide_eq_false (show ¬ (k : Int) < (n : Int) by omega)
      have HR := Lib.hid (show idxI R = -1 by rw [HQ.out, List.drop_eq_nil_of_le (by rw [HN.out]; omega)]; rfl)
      clear hl HQ h0 h1
      go_wp2_with fail
      go_ret
      exact ⟨ret_int HR.out.symm, hbw⟩
set_option maxRecDepth 100000 in
set_option maxHeartbeats 4000000 in
theorem events_Attr (B : Nat) (es : List Evt) (v : Value) (i : Int) (nm : ByteArray × ByteArray) (w : World) (hr : EvsR B w v es) (hB : B ≤ w.heap.size) (hn : es.length ≤ 1000000) (hz : ∀ e ∈ es, e.at_.length ≤ 1000000) :
    Calls Try.prog 112 #[v, .int .i64 i, .agg #[.string nm.1, .string nm.2]] w fun r w' => AttrS w w' (attrP es i nm) r := by
  have hb0 := (Below.refl w.heap.size w).alloc (Nat.le_refl _) (.cells #[.string nm.1, .string nm.2] 24)
  have bX0 := BlkAt.new w #[.string nm.1, .string nm.2] 24
  have hA := events_at B es v i _ (hr.below hb0 hB) (Nat.le_trans hB hb0.size) hn fun e he => by have := hz e he; omega
  unfold attrP
  obtain ⟨R, hR⟩ : ∃ R, atP es i = R := ⟨_, rfl⟩
  rw [hR] at hA ⊢
  have HA := Lib.hid hA
  clear hA
  cases R with
  | none =>
    clear hR hr hz
    go_enter Try.func112, Try.ntmps112
    go_wp2_with fail
    refine (HA.out).mono ?_
    rintro r w1 ⟨rfl, hb⟩
    go_wp2_with fail
    go_ret2
    exact ⟨bt hb0 hb, rfl⟩
  | some g =>
    obtain ⟨hG, hN, hcell, p, e, rfl, hE, hEn, hpe, he⟩ := atP_nest hR
    obtain ⟨avs, ⟨a, cap, rfl, -⟩, -⟩ := id hr
    obtain ⟨x, hx⟩ : ∃ x, es[p]? = some x := ⟨_, List.getElem?_eq_getElem (by omega)⟩
    have hxz := hz x (List.mem_of_getElem? hx)
    simp only [Int.toNat_natCast, hx, Option.map_some, Option.getD_some]
    obtain ⟨n, hnn⟩ : ∃ n, es.length = n := ⟨_, rfl⟩
    have HN := Lib.hid hnn
    rw [hnn] at hr hn HA he ⊢
    have hpn : p < n := by omega
    obtain ⟨T, hT⟩ : ∃ T, attF x.at_ nm = T := ⟨_, rfl⟩
    rw [hT]
    clear hR hG hN hcell hE hEn hz hnn
    go_enter Try.func112, Try.ntmps112
    go_wp2_with fail
    refine (HA.out).mono ?_
    rintro r w1 ⟨gp, mb, rfl, hb, -, -, -⟩
    have bX := bX0.below hb bX0.lt
    have hbw := bt hb0 hb
    obtain ⟨b', off', cap', av', hv', hbB, c0, c1, c2, c3, c4, hav⟩ := hr.get hbw hB p x hx
    rw [HN.out] at hv'
    cases hv'
    obtain ⟨aa, ac, rfl, -⟩ := id hav
    have HI := attr_IndexFunc B x.at_ (.slice aa x.at_.length ac) w.heap.size nm w1 hav (Nat.le_trans hB hbw.size) hxz (bX.cell 0 rfl) (bX.cell 1 rfl) bX.lt
    obtain ⟨m, hm⟩ : ∃ m, x.at_.length = m := ⟨_, rfl⟩
    have HM := Lib.hid hm
    rw [hm] at hav c3 HI
    have HX := Lib.hid hx
    cases hI : idxF x.at_ nm with
    | none =>
      rw [hI] at HI
      rw [show idxI none = -1 from rfl] at HI
      have HT := Lib.hid (hT.symm.trans (idxF_none hI))
      have HI := Lib.hid HI
      clear hm bX bX0 hb0 hb hr hx c0 c1 c2 c4 hI hav hT
      go_wp2_with fail
      refine (HI.out).mono ?_
      rintro r w2 ⟨rfl, hb2⟩
      go_wp2_with fail
      go_ret2
      refine ⟨bt hbw hb2, ?_⟩
      rw [HT.out]
      rfl
    | some k =>
      rw [hI] at HI
      rw [show idxI (some k) = (k : Int) from rfl] at HI
      obtain ⟨y, hy, hatt⟩ := idxF_some hI
      have HT := Lib.hid (hT.symm.trans hatt)
      have hkm : k < m := by rw [← hm]; exact (List.getElem?_eq_some_iff.1 hy).1
      have HI := Lib.hid HI
      have HY := Lib.hid hy
      have HR := Lib.hid hr
      have hbs := hbw.size
      clear hm bX bX0 hb0 hb hr hx c0 c1 c2 c4 hI hy hatt hT
      have hd0 := decide_eq_false (show ¬ (k : Int) < 0 by omega)
      go_wp2_with fail
      refine (HI.out).mono ?_
      rintro r w2 ⟨rfl, hb2⟩
      obtain ⟨b2, o2, cp2, hv2, p0, p1, p2⟩ := hav.attr (hb2.mono (Nat.le_refl _)) (Nat.le_trans hB hbs) k y HY.out
      cases hv2
      have hbw2 := bt hbw hb2
      obtain ⟨b', off', cap', av', hv', -, -, -, -, d3, -, -⟩ := HR.out.get hbw2 hB p x HX.out
      rw [HN.out] at hv'
      cases hv'
      have d4 := (hb2.cell (p := ⟨b', off' + p * 5 + 3, none⟩) (by show b' < w1.heap.size; omega)).trans c3
      clear c3 d3 hav p0 p1
      go_wp2_with fail
      go_ret2
      refine ⟨hbw2, ?_⟩
      rw [HT.out]
      rfl
end Go.Proofs.Yteefopeclfojiaa
/- 
  Layer 16: the walk of events.First.
 -/
namespace Go.Proofs.Yteefopeclfojiaa
open Go.RowKit
attribute [local go_sem] Oper.semAt_some
theorem find_pre {α : Type} {P : α → Bool} {pre : List α} {x : α} {l : List α} (h : (pre ++ [x]) <+: l) (hp : ∀ k ∈ pre, P k = false) (hx : P x = true) : l.find? P = some x := by
  obtain ⟨t, rfl⟩ := h
  rw [List.append_assoc, List.find?_append, List.find?_eq_none.2 (fun k hk => by rw [hp k hk]; decide), List.singleton_append, List.find?_cons, hx]
  rfl
/-- what lasts within the range of First. -/
structure FrJ (v : Value) (nm : ByteArray × ByteArray) (w : World) (rk : Value) (rb : Bool) (W : World) : Prop where
  bl : Boxed W w.heap.size 22 v
  bn : BlkAt W (w.heap.size + 1) #[.string nm.1, .string nm.2]
  r1 : Boxed W (w.heap.size + 1 + 1) 3 rk
  r2 : Boxed W (w.heap.size + 1 + 1 + 1) 4 (.bool rb)
  be : Below w.heap.size w W
  sz : w.heap.size + 4 ≤ W.heap.size
theorem FrJ.turn {v : Value} {nm : ByteArray × ByteArray} {w : World} {rk : Value} {rb : Bool} {W W' : World} (h : FrJ v nm w rk rb W) (hk : KeepsB [w.heap.size, w.heap.size + 1, w.heap.size + 1 + 1, w.heap.size + 1 + 1 + 1] W W') (hb : Below w.heap.size W W') : FrJ v nm w rk rb W' :=
  ⟨((hk _ (by simp) h.bl.lt).1).trans h.bl, by
    obtain ⟨t, ht⟩ := h.bn
    exact ⟨t, ((hk _ (by simp) h.bn.lt).1).trans ht⟩, ((hk _ (by simp) h.r1.lt).1).trans h.r1, ((hk _ (by simp) h.r2.lt).1).trans h.r2, h.be.trans hb, Nat.le_trans h.sz hb.size⟩
def FrI (es : List Evt) (v : Value) (nm : ByteArray × ByteArray) (w : World) (pre : List Nat) (W : World) : Prop := FrJ v nm w (.int .i64 0) false W ∧ ∀ k ∈ pre, decide ((es[k]?).map Evt.n = some nm) = false
def FrX (es : List Evt) (v : Value) (nm : ByteArray × ByteArray) (w : World) (c : Code) (pre : List Nat) (W : World) : Prop := c = .ret ∧ ∃ (ini : List Nat) (x : Nat), pre = ini ++ [x] ∧ (∀ k ∈ ini, decide ((es[k]?).map Evt.n = some nm) = false) ∧ decide ((es[x]?).map Evt.n = some nm) = true ∧ FrJ v nm w (.int .i64 (x : Int)) true W
theorem frJ_turns {v : Value} {nm : ByteArray × ByteArray} {w : World} {rk : Value} {rb : Bool} {B : Nat} (hB : w.heap.size + 4 ≤ B) {X Y : World} (h : FrJ v nm w rk rb X) (ht : Turns NoMu B X Y) : FrJ v nm w rk rb Y := by
  have hbl := ht.below (C := w.heap.size) (by omega) h.be.size
  obtain ⟨row, hg, hrow⟩ := ht
  refine h.turn (fun k hk hl => ⟨hg.block k hl (fun e => ?_), hg.size⟩) hbl
  have := (hrow k e.symm).1
  simp at hk
  omega
theorem frI_own (es : List Evt) (v : Value) (nm : ByteArray × ByteArray) (w : World) (B : Nat) (hB : w.heap.size + 4 ≤ B) : OwnM NoMu B (FrI es v nm w) := fun _ _ _ h ht => ⟨frJ_turns hB h.1 ht, h.2⟩
theorem frX_own (es : List Evt) (v : Value) (nm : ByteArray × ByteArray) (w : World) (B : Nat) (hB : w.heap.size + 4 ≤ B) (c : Code) : OwnM NoMu B (FrX es v nm w c) := by
  rintro pre X Y ⟨hc, ini, x, h1, h2, h3, h4⟩ ht
  exact ⟨hc, ini, x, h1, h2, h3, frJ_turns hB h4 ht⟩
set_option maxRecDepth 100000 in
set_option maxHeartbeats 8000000 in
theorem events_First (B : Nat) (es : List Evt) (v : Value) (i : Int) (nm : ByteArray × ByteArray) (w : World) (hr : EvsR B w v es) (hB : B ≤ w.heap.size) (hn : es.length ≤ 999999) (hz : ∀ e ∈ es, e.at_.length ≤ 140737488351232) :
    Calls Try.prog 130 #[v, .int .i64 i, .agg #[.string nm.1, .string nm.2]] w fun r w' => FirstS w w' (fstP es i nm) r := by
  refine (callsIn_wide (n := 5)).1 ?_
  refine callsIn_of_wp_marks Try.func130 rfl trivial ?_ rfl
  simp only [Try.ntmps130, List.size_toArray, List.length_cons, List.length_nil, Nat.reduceAdd, Nat.reduceSub, Array.replicate_succ, Array.replicate_zero, List.push_toArray, List.append_toArray, List.nil_append, List.cons_append]
  obtain ⟨avs, ⟨a, cap, rfl, -⟩, -⟩ := id hr
  obtain ⟨nn, hnn⟩ : ∃ n, es.length = n := ⟨_, rfl⟩
  have HN := Lib.hid hnn
  rw [hnn] at hr hn ⊢
  clear hnn
  have J0 : FrJ (.slice a nn cap) nm w (.int .i64 0) false ((((w.alloc (.cells #[.slice a nn cap] 22)).alloc (.cells #[.string nm.1, .string nm.2] 24)).alloc (.cells #[.int .i64 0] 3)).alloc (.cells #[.bool false] 4)) := by
    have h1 := BlkAt.new (w.alloc (.cells #[.slice a nn cap] 22)) #[.string nm.1, .string nm.2] 24
    have h2 := Boxed.new ((w.alloc (.cells #[.slice a nn cap] 22)).alloc (.cells #[.string nm.1, .string nm.2] 24)) 3 (.int .i64 0)
    have h3 := Boxed.new (((w.alloc (.cells #[.slice a nn cap] 22)).alloc (.cells #[.string nm.1, .string nm.2] 24)).alloc (.cells #[.int .i64 0] 3)) 4 (.bool false)
    simp only [World.size_alloc] at h1 h2 h3
    refine ⟨((Boxed.new w _ _).alloc _ |>.alloc _).alloc _, (h1.alloc _).alloc _, h2.alloc _, h3, ?_, by simp⟩
    exact (((((Below.refl w.heap.size w).alloc (Nat.le_refl _) _).alloc (by simp) _).alloc (by simp; omega) _).alloc (by simp; omega) _)
  have hA := fun (u : World) (hu : Below w.heap.size w u) => events_at B es (.slice a nn cap) i u (hr.below hu hB) (Nat.le_trans hB hu.size) (by rw [HN.out]; omega) hz
  unfold fstP
  obtain ⟨R, hR⟩ : ∃ R, atP es i = R := ⟨_, rfl⟩
  rw [hR] at hA
  have HA := Lib.hid hA
  clear hA
  generalize hw1 : (((w.alloc (.cells #[.slice a nn cap] 22)).alloc (.cells #[.string nm.1, .string nm.2] 24)).alloc (.cells #[.int .i64 0] 3)).alloc (.cells #[.bool false] 4) = w1 at J0
  have HW1 := Lib.hid hw1
  clear hw1
  cases R with
  | none =>
    have hk : kidsP es i = [] := by unfold kidsP; rw [hR]
    rw [hk]
    have c0 := J0.bl.cell
    gi_wp2_with fail
    rw [HW1.out]
    refine ⟨trivial, ?_⟩
    refine (callsIn_wide.2 (HA.out _ J0.be)).mono ?_
    rintro e w2 ⟨rfl, hb2⟩
    have J2 := J0.turn (fun k hk hl => ⟨hb2.block k (by have := J0.sz; simp at hk; omega), hb2.size⟩) (hb2.mono J0.be.size)
    have d1 := J2.r1.cell
    have d2 := J2.r2.cell
    have e1 := J2.r1.frozen
    have e2 := J2.r2.frozen
    have hO : FrJ (.slice a nn cap) nm w (.int .i64 0) false ((w2.setCell ⟨w.heap.size + 1 + 1, 0, none⟩ (.int .i64 0)).setCell ⟨w.heap.size + 1 + 1 + 1, 0, none⟩ (.bool false)) :=
      ⟨(J2.bl.other (by omega) _).other (by omega) _, (J2.bn.far (by omega) 0 _).far (by omega) 0 _, (J2.r1.set _).other (by omega) _, (J2.r2.other (by omega) _).set _, (J2.be.setCell (p := ⟨w.heap.size + 1 + 1, 0, none⟩) (by show _ ≤ w.heap.size + 1 + 1; omega) _).setCell (p := ⟨w.heap.size + 1 + 1 + 1, 0, none⟩) (by show _ ≤ w.heap.size + 1 + 1 + 1; omega) _, by simp; exact J2.sz⟩
    gi_wp2_with fail
    have x1 := hO.r1.cell
    have x2 := hO.r2.cell
    refine ⟨.tuple #[.int .i64 0, .bool false], ?_, hO.be, rfl⟩
    simp [results, Try.f130, go_sem, x1, x2]
  | some g =>
    obtain ⟨-, hN, hcell, p0, j, hip, hE, hEn, hpj, hj⟩ := atP_nest hR
    subst hip
    have hkp : kidsP es (p0 : Int) = kidsL (endO g) p0 j := kidsP_of (atP_nest hR).1 hE
    rw [hkp]
    have hlt : ∀ p j, endO g p = some j → p < j ∧ j < 1000000 := fun p j h => by
      obtain ⟨h1, h2, -⟩ := hN.lt p j h
      rw [HN.out] at h2
      exact ⟨h1, by omega⟩
    have c0 := J0.bl.cell
    gi_wp2_with fail
    rw [HW1.out]
    refine ⟨trivial, ?_⟩
    refine (callsIn_wide.2 (HA.out _ J0.be)).mono ?_
    rintro e w2 ⟨p, mb, rfl, hb2, ht, hm, hp, hmb⟩
    have J2 := J0.turn (fun k hk hl => ⟨hb2.block k (by have := J0.sz; simp at hk; omega), hb2.size⟩) (hb2.mono J0.be.size)
    gi_wp2_with (refine ⟨trivial, ?_⟩; gi_at_call 64; refine (tree_kids_in Fence.wide _ trivial rfl _ _ _).mono ?_; rintro e w3 ⟨rfl, rfl⟩)
    have hT : TrK (w2.heap.size + 1) w2.heap.size p mb p0 (.slice a nn cap) g ((w2.alloc (.cells #[.pointer (some ⟨p, 0, none⟩)] 73)).alloc (.cells #[.int .i64 (p0 : Nat)] 3)) := by
      have h1 := Boxed.new (w2.alloc (.cells #[.pointer (some ⟨p, 0, none⟩)] 73)) 3 (.int .i64 (p0 : Nat))
      rw [World.size_alloc] at h1
      exact ⟨h1, (Boxed.new w2 _ _).alloc _, (ht.alloc _).alloc _, (hm.alloc _).alloc _⟩
    have hb3 := ((Below.refl w2.heap.size w2).alloc (Nat.le_refl _) (.cells #[.pointer (some ⟨p, 0, none⟩)] 73)).alloc (by simp) (.cells #[.int .i64 (p0 : Nat)] 3)
    have J3 := J2.turn (fun k hk hl => ⟨hb3.block k (by have := J2.sz; simp at hk; omega), hb3.size⟩) (hb3.mono J2.be.size)
    have hs3 : ((w2.alloc (.cells #[.pointer (some ⟨p, 0, none⟩)] 73)).alloc (.cells #[.int .i64 (p0 : Nat)] 3)).heap.size = w2.heap.size + 2 := by simp
    obtain ⟨w3, hw3⟩ : ∃ x, ((w2.alloc (.cells #[.pointer (some ⟨p, 0, none⟩)] 73)).alloc (.cells #[.int .i64 (p0 : Nat)] 3)) = x := ⟨_, rfl⟩
    rw [hw3] at hT J3 hs3 ⊢
    have hpl2 := ht.lt
    have hml2 := hm.lt
    have hs2 := J2.sz
    clear hw3 hb2 hb3 J2 J0 c0 ht hm HA HW1
    obtain ⟨q, hq⟩ : ∃ q, w2.heap.size = q := ⟨_, rfl⟩
    rw [hq] at hT hs3 hs2 hpl2 hml2 ⊢
    clear hq
    refine wpIn_rangeFunc_ownP NoMu rfl (by omega) (gf := 96) (lb := #[.pointer (some ⟨q + 1, 0, none⟩), .pointer (some ⟨q, 0, none⟩)]) rfl trivial (enters_of Try.func96 (by kernel_rfl) rfl)
      (kids_stops _ (by omega) (q + 1) q p mb p0 j (.slice a nn cap) g hcell hlt hE w3 hT) KeepsB.trans (fun W l o o' h1 _ _ _ => KeepsB.putObj (B := w3.heap.size) (fun b hb => by simp at hb; omega) l o' h1) (Below.refl _ _) (fun _ => rfl)
      (FrI es (.slice a nn cap) nm w) (FrX es (.slice a nn cap) nm w) (frI_own _ _ _ _ _ (by omega)) (fun c => frX_own _ _ _ _ _ (by omega) c)
      ⟨J3, fun k hk => by cases hk⟩
      (fun x a' W => a' = { tmps := #[.slice a nn cap, .int .i64 (p0 : Nat), .agg #[.string nm.1, .string nm.2], .pointer (some ⟨w.heap.size, 0, none⟩), undef, .pointer (some ⟨w.heap.size + 1, 0, none⟩), .pointer (some ⟨w.heap.size + 1 + 1, 0, none⟩), .pointer (some ⟨w.heap.size + 1 + 1 + 1, 0, none⟩), .pointer (some ⟨p, 0, none⟩), .int .i64 (x : Nat), .slice a nn cap, .int .i64 (p0 : Nat), .pointer (some ⟨p, 0, none⟩), .pointer (some ⟨p, 0, none⟩), .bool false, .pointer (some ⟨p, 0, none⟩), .int .i64 (p0 : Nat), .func (.func 96) #[] #[.pointer (some ⟨q + 1, 0, none⟩), .pointer (some ⟨q, 0, none⟩)], .int .i64 (x : Nat), undef, undef, undef, undef, undef, undef, undef, undef], defers := [] })
      (fun x a' _ _ _ _ h _ _ => h) ?assign ?body ?done ?stop
    case assign =>
      rintro l pre x W K hI hK
      gi_wp2
      exact hK _ _ (KeepsFrom.refl _ _) (fun k _ h => ⟨rfl, Nat.le_refl _⟩) hI rfl
    case body =>
      rintro l pre x a' W hl ⟨J, hpre⟩ rfl hsp hlen
      have hxn : x < nn := by
        have h1 := kidsP_mem (es := es) (i := (p0 : Int)) (x := x) (by rw [hkp]; exact hsp.subset (by simp))
        rw [HN.out] at h1
        exact h1
      obtain ⟨y, hy⟩ : ∃ y, es[x]? = some y := ⟨_, List.getElem?_eq_getElem (by rw [HN.out]; exact hxn)⟩
      obtain ⟨b, off, cap', av, hv, hbB, c0, c1, c2, -⟩ := hr.get J.be hB x y hy
      rw [HN.out] at hv
      cases hv
      have d0 := J.bl.cell
      have d1 : _ = some (Value.string nm.1) := J.bn.cell 0 rfl
      have d2 : _ = some (Value.string nm.2) := J.bn.cell 1 rfl
      have HP := Lib.hid hpre
      have HS := Lib.hid hsp
      have HJ := Lib.hid J
      by_cases hnm : y.n = nm
      · have HD := Lib.hid (show decide ((es[x]?).map Evt.n = some nm) = true by rw [hy]; simp [hnm])
        rw [hnm] at c1 c2
        have t1 := toL_self nm.1
        have t2 := toL_self nm.2
        have JD : FrJ (.slice (some ⟨b, off, none⟩) nn cap) nm w (.int .i64 0) false W.drew := J.turn (fun k hk hl => ⟨rfl, Nat.le_refl _⟩) ((Below.refl _ W).mono J.be.size).drew
        have HJD := Lib.hid JD
        have HKO := Lib.hid (keepsOthers_belowQ (Below.refl W.heap.size W).drew)
        have x1 := JD.r1.cell
        have x2 := JD.r2.cell
        have x3 := JD.r1.frozen
        have x4 := JD.r2.frozen
        have hbe := Lib.hid ((J.be.drew).size)
        clear hr hy hpre hsp J JD
        gi_wp2_with fail
        gi_region
        all_goals
          generalize W.drew = W1 at HJD HKO x1 x2 x3 x4 ⊢
          gi_wp2_with fail
          refine ⟨((HKO.out.trans (KeepsOthers.setCell _ _ _)).trans (KeepsOthers.setCell _ _ _)).from _, rfl, pre, x, rfl, HP.out, HD.out, ?_⟩
          exact ⟨(HJD.out.bl.other (by omega) _).other (by omega) _, (HJD.out.bn.far (by omega) 0 _).far (by omega) 0 _, (HJD.out.r1.set _).other (by omega) _, (HJD.out.r2.other (by omega) _).set _, (HJD.out.be.setCell (p := ⟨w.heap.size + 1 + 1, 0, none⟩) (by show _ ≤ w.heap.size + 1 + 1; omega) _).setCell (p := ⟨w.heap.size + 1 + 1 + 1, 0, none⟩) (by show _ ≤ w.heap.size + 1 + 1 + 1; omega) _, by simp; exact HJD.out.sz⟩
      · have hpre2 : ∀ k ∈ pre ++ [x], decide ((es[k]?).map Evt.n = some nm) = false := fun k hk => by
          rcases List.mem_append.1 hk with hk | hk
          · exact hpre k hk
          · rw [List.mem_singleton.1 hk, hy]; simp [hnm]
        have HPX := Lib.hid hpre2
        have hne := nm_ne hnm
        have HKO := Lib.hid (keepsOthers_belowQ (Below.refl W.heap.size W).drew)
        have JD : FrJ (.slice (some ⟨b, off, none⟩) nn cap) nm w (.int .i64 0) false W.drew := J.turn (fun k hk hl => ⟨rfl, Nat.le_refl _⟩) ((Below.refl _ W).mono J.be.size).drew
        have HJD := Lib.hid JD
        clear hr hy hpre hpre2 hsp J JD hnm
        rcases hne with g1 | ⟨g1, g2⟩
        all_goals
          gi_wp2_with fail
          gi_region
          all_goals
            gi_wp2_with fail
            exact ⟨HKO.out.from _, fun k hk hkl => ⟨rfl, Nat.le_refl _⟩, HJD.out, HPX.out⟩
    case done =>
      rintro D ys W hD rfl ⟨J, hpre⟩ hK
      have x1 := J.r1.cell
      have x2 := J.r2.cell
      have x3 := J.r1.frozen
      have x4 := J.r2.frozen
      have hO : FrJ (.slice a nn cap) nm w (.int .i64 0) false ((W.setCell ⟨w.heap.size + 1 + 1, 0, none⟩ (.int .i64 0)).setCell ⟨w.heap.size + 1 + 1 + 1, 0, none⟩ (.bool false)) :=
        ⟨(J.bl.other (by omega) _).other (by omega) _, (J.bn.far (by omega) 0 _).far (by omega) 0 _, (J.r1.set _).other (by omega) _, (J.r2.other (by omega) _).set _, (J.be.setCell (p := ⟨w.heap.size + 1 + 1, 0, none⟩) (by show _ ≤ w.heap.size + 1 + 1; omega) _).setCell (p := ⟨w.heap.size + 1 + 1 + 1, 0, none⟩) (by show _ ≤ w.heap.size + 1 + 1 + 1; omega) _, by simp; exact J.sz⟩
      have HO := Lib.hid hO
      have HKp := Lib.hid (((KeepsOthers.setCell W ⟨w.heap.size + 1 + 1, 0, none⟩ (.int .i64 0)).trans (KeepsOthers.setCell _ ⟨w.heap.size + 1 + 1 + 1, 0, none⟩ (.bool false))).same D _ hK rfl)
      have HP := Lib.hid (show (kidsL (endO g) p0 j).find? (fun k => decide ((es[k]?).map Evt.n = some nm)) = none from List.find?_eq_none.2 fun k hk => by rw [hpre k hk]; decide)
      clear hO hpre
      gi_wp2_with fail
      have hK' := HKp.out
      refine ⟨by simp, .inl ⟨_, _, rfl, run_takeDeferred hK', ?_⟩⟩
      have hc5 := cell_kept HO.out.r1.cell (grownBy_putObj' _ D (.deferred none)) (fun r e => by cases e; exact ⟨_, hK', rfl⟩)
      have hc6 := cell_kept HO.out.r2.cell (grownBy_putObj' _ D (.deferred none)) (fun r e => by cases e; exact ⟨_, hK', rfl⟩)
      refine ⟨.tuple #[.int .i64 0, .bool false], ?_, HO.out.be.trans (belowK_b (w := w) (Nat.le_refl _) _ D _ _ (by omega) hK' rfl rfl), ?_⟩
      · simp [results, Try.f130, go_sem, hc5, hc6]
      · rw [HP.out]
    case stop =>
      rintro D c pre W hD ht ⟨rfl, ini, x, rfl, h1, h2, J⟩ hK
      have HP := Lib.hid (find_pre ht h1 h2)
      gi_wp2_with fail
      refine ⟨by simp, .inl ⟨_, _, rfl, run_takeDeferred hK, ?_⟩⟩
      have hc5 := cell_kept J.r1.cell (grownBy_putObj' _ D (.deferred none)) (fun r e => by cases e; exact ⟨_, hK, rfl⟩)
      have hc6 := cell_kept J.r2.cell (grownBy_putObj' _ D (.deferred none)) (fun r e => by cases e; exact ⟨_, hK, rfl⟩)
      refine ⟨.tuple #[.int .i64 (x : Int), .bool true], ?_, J.be.trans (belowK_b (w := w) (Nat.le_refl _) _ D _ _ (by omega) hK rfl rfl), ?_⟩
      · simp [results, Try.f130, go_sem, hc5, hc6]
      · rw [HP.out]
end Go.Proofs.Yteefopeclfojiaa
