/-
  Layer 16: the law EventsNest.
-/
import Derived.Test.YteefopeclfojiaaEve
namespace Go.Proofs.Yteefopeclfojiaa
open Go.RowKit
theorem str_app_tx (l : List Int) (s : ByteArray) : strOfNums l ++ s = strOfNums (l ++ nums s) := by rw [← strOfNums_app, strOfNums_nums]
theorem ownL_size {es : List Evt} (E : Nat → Option Nat) (l : List Nat) (k : Nat) (hl : l.length ≤ 300) (ht : (txsL es).length ≤ 140737488355000) : (ownL es E k l).length ≤ 42221246506500000 := by
  have h1 := ownL_le es E l k
  have h2 : l.length * (txsL es).length ≤ 300 * 140737488355000 := Nat.mul_le_mul hl ht
  omega
set_option maxRecDepth 100000 in
set_option maxHeartbeats 16000000 in
theorem law_EventsNest (v : Value) (es : List Evt) (i : Int) (w : World) (hl : EvsIn w v es) :
    Calls Try.prog 4 #[v, .int .i64 i] w fun r w' => r = .returned (.bool true) ∧ Below w.heap.size w w' := by
  have hR := hl.r
  have hZ := hl.small
  have hn := hl.at_.n
  have hcap := hl.cap
  obtain ⟨avs, ⟨a, cap, rfl, -⟩, -⟩ := id hR
  have G1 := Lib.hid (ref16_Great w.heap.size es _ w hR (Nat.le_refl _) hn hZ)
  have HW := Lib.hid law_wakes
  have wk : ∀ W, Below w.heap.size w W → Calls Try.prog 17 #[] W fun r w' => r = .returned (.bool true) ∧ Below w.heap.size w w' := fun W hW => (HW.out W).mono fun r w' h => ⟨h.1, bt hW h.2⟩
  have WK := Lib.hid wk
  clear wk HW
  obtain ⟨n, hnn⟩ : ∃ n, es.length = n := ⟨_, rfl⟩
  have HN := Lib.hid hnn
  have HC := Lib.hid hcap
  rw [hnn] at G1 hR ⊢
  have HR := Lib.hid hR
  have hb1 := Below.refl w.heap.size w
  clear hn hZ hl hR hcap
  go_enter Try.func4, Try.ntmps4
  go_wp2_with fail
  refine (G1.out).mono ?_
  rintro r w2 ⟨b1, rfl, hg1, hb2⟩
  replace hb1 := bt hb1 hb2
  clear hb2 G1
  cases b1 with
  | true =>
    clear hg1 HR HC
    go_wp2_with fail
    refine (WK.out _ hb1).mono ?_
    rintro r w9 ⟨rfl, hb9⟩
    go_wp2_with fail
    go_ret
    exact ⟨rfl, hb9⟩
  | false =>
    have OK := Lib.hid (hg1 rfl)
    have hn300 : n ≤ 300 := by rw [← HN.out]; exact OK.out.len
    clear hg1 hnn
    have KE := Lib.hid (fun (j : Int) (W : World) (hW : Below w.heap.size w W) => events_End w.heap.size es (.slice a n cap) j W (HR.out.below hW (Nat.le_refl _)) hW.size (by rw [HN.out]; omega) (fun e he => by have := OK.out.ats e he; omega))
    have KT := Lib.hid (fun (j : Int) (W : World) (hW : Below w.heap.size w W) => events_Text w.heap.size es (.slice a n cap) j W (HR.out.below hW (Nat.le_refl _)) hW.size (by rw [HN.out]; omega) (fun e he => by have := OK.out.ats e he; omega) (by have := OK.out.txs; omega) (by have h := HC.out; rw [HN.out] at h ⊢; exact h))
    have KK := Lib.hid (fun (j : Int) (W : World) (hW : Below w.heap.size w W) => events_Kids w.heap.size es (.slice a n cap) j W (HR.out.below hW (Nat.le_refl _)) hW.size (by rw [HN.out]; omega) (fun e he => by have := OK.out.ats e he; omega))
    have KP := Lib.hid (fun (j : Int) (W : World) (hW : Below w.heap.size w W) => events_Path w.heap.size es (.slice a n cap) j W (HR.out.below hW (Nat.le_refl _)) hW.size (by rw [HN.out]; omega) (fun e he => by have := OK.out.ats e he; omega))
    have KO := Lib.hid (fun (j : Int) (W : World) (hW : Below w.heap.size w W) => events_Own w.heap.size es (.slice a n cap) j W (HR.out.below hW (Nat.le_refl _)) hW.size (by rw [HN.out]; omega) (fun e he => by have := OK.out.ats e he; omega) (by have := OK.out.txs; omega) (by have h := HC.out; rw [HN.out] at h ⊢; exact h))
    go_wp2_with fail
    refine (KE.out i _ hb1).mono ?_
    rintro r w3 ⟨hb3, hr⟩
    replace hb1 := bt hb1 hb3
    clear hb3
    cases hat : atP es i with
    | none =>
      rw [hat] at hr
      have hr : r = .returned (.tuple #[.int .i64 0, .bool false]) := hr
      subst hr
      have t1 : textP es i = [] := by unfold textP; rw [hat]
      have t2 : kidsP es i = [] := by unfold kidsP; rw [hat]
      have KT1 := KT.out i
      rw [t1, strOfNums_nil] at KT1
      have KK1 := KK.out i
      rw [t2] at KK1
      have KT1 := Lib.hid KT1
      have KK1 := Lib.hid KK1
      clear t1 t2 hat KE KT KK KP KO
      go_wp2_with fail
      refine (KT1.out _ hb1).mono ?_
      rintro r w4 ⟨rfl, hb4⟩
      replace hb1 := bt hb1 hb4
      clear hb4
      go_wp2_with fail
      refine (KK1.out _ hb1).mono ?_
      rintro r w5 ⟨ku, rfl, hrow, hb5⟩
      obtain ⟨ka, kl, kc, rfl⟩ := own_slice hrow
      have hkl : kl = 0 := by
        rcases hrow.2 with ⟨h1, -⟩ | ⟨g, cp, cur, h1, -⟩
        · injection h1
        · injection h1
      subst hkl
      replace hb1 := bt hb1 hb5
      clear hb5 hrow
      go_wp2_with fail
      refine (WK.out _ hb1).mono ?_
      rintro r w9 ⟨rfl, hb9⟩
      go_wp2_with fail
      go_ret
      exact ⟨rfl, hb9⟩
    | some g =>
      rw [hat] at hr
      obtain ⟨hG, hN, hcell, p, e, rfl, hE, hEn, hpe, he⟩ := atP_nest hat
      have hr : r = .returned (.tuple #[endV g p, .bool true]) := hr
      have hev := (endV_some hcell hE).1
      rw [hev] at hr
      subst hr
      clear hev
      rw [HN.out] at he
      obtain ⟨x0, hx0⟩ : ∃ x, es[p]? = some x := ⟨_, List.getElem?_eq_getElem (by rw [HN.out]; omega)⟩
      obtain ⟨b, off, cap', av0, hv0, -⟩ := HR.out.get (Below.refl _ w) (Nat.le_refl _) p x0 hx0
      rw [HN.out] at hv0
      cases hv0
      obtain ⟨gs, hgs, -⟩ := sub_whole hG hE
      have hncap : n ≤ cap := by
        obtain ⟨a', c', h1, h2, -⟩ := HC.out
        injection h1 with h3 h4 h5
        rw [HN.out] at h2
        omega
      have hsub := HR.out.sub p (e + 1 - p) (cap - p) (by rw [HN.out]; omega)
      have KW := fun (W : World) (hW : Below w.heap.size w W) => events_Whole w.heap.size _ (.slice (some ⟨b, off + p * 5, none⟩) (e + 1 - p) (cap - p)) W (hsub.below hW (Nat.le_refl _)) hW.size (by rw [List.length_take, List.length_drop, HN.out]; omega) (fun y hy => by have := OK.out.ats y (List.mem_of_mem_drop (List.mem_of_mem_take hy)); omega)
      rw [hgs] at KW
      have KW := Lib.hid KW
      have q1 := decide_eq_false (show ¬ (e : Int) ≤ (p : Int) by omega)
      have q2 := decide_eq_false (show ¬ (n : Int) ≤ (e : Int) by omega)
      have q3 : (p : Int) ≤ (e : Int) + 1 := by omega
      have q4 : (e : Int) + 1 ≤ (cap : Int) := by omega
      have q5 : ¬ cap = p := by omega
      have HG := Lib.hid hG
      have HNest := Lib.hid hN
      have HE := Lib.hid hE
      have HX0 := Lib.hid hx0
      clear hat hG hN hcell hE hEn hx0 hgs hsub
      go_wp2_with fail
      refine (KW.out _ hb1).mono ?_
      rintro r w4 ⟨rfl, hb4⟩
      replace hb1 := bt hb1 hb4
      clear hb4 KW
      go_wp2_with fail
      refine (KK.out p _ hb1).mono ?_
      rintro r w5 ⟨ku, rfl, hrow, hb5⟩
      replace hb1 := bt hb1 hb5
      clear hb5
      rw [kidsP_of HG.out HE.out] at hrow
      obtain ⟨kids, hkids⟩ : ∃ k, kidsL (endO g) p e = k := ⟨_, rfl⟩
      rw [hkids] at hrow
      obtain ⟨kl, hkl⟩ : ∃ k, kids.length = k := ⟨_, rfl⟩
      rw [hkl] at hrow
      obtain ⟨ka, kl', kc, rfl⟩ := own_slice hrow
      have hkl2 : kl' = kl := by
        rcases hrow.2 with ⟨h1, h2⟩ | ⟨g', cp, cur, h1, -⟩
        · injection h1 with _ h3
          omega
        · injection h1
      subst hkl2
      have hkln : kl' ≤ 300 := by
        rw [← hkl, ← hkids]
        have h1 := kidF_len (E := endO g) (e := e) (fun p j h => (HNest.out.lt p j h).1) e (p + 1)
        unfold kidsL
        omega
      have HKids := Lib.hid hkids
      have HKL := Lib.hid hkl
      have HROW := Lib.hid hrow
      clear hkids hkl hrow
      go_wp2_with fail
      refine (KP.out p _ hb1).mono ?_
      rintro r w6 ⟨pv, rfl, hprow, hb6⟩
      obtain ⟨pl, hpl⟩ : ∃ k, (pathP es p).length = k := ⟨_, rfl⟩
      unfold NmsR at hprow
      rw [hpl] at hprow
      obtain ⟨pa, pl', pc, rfl⟩ := own_slice hprow
      have hpl2 : pl' = pl := by
        rcases hprow.2 with ⟨h1, h2⟩ | ⟨g', cp, cur, h1, -⟩
        · injection h1 with _ h3
          omega
        · injection h1
      subst hpl2
      have hpath : (pathP es p) = nmAt es (pathK (endO g) p (p + 1)) := by
        unfold pathP
        rw [atP_of HG.out HE.out]
        simp only [Int.toNat_natCast]
      have hpln : pl' ≤ 301 := by
        rw [← hpl, hpath, nmAt_len]
        have := pathK_len (endO g) p (p + 1)
        omega
      have HROW2 := Lib.hid (own_below HROW.out hb6 (Nat.le_refl _))
      replace hb1 := bt hb1 hb6
      have HPL := Lib.hid hpl
      have HPath := Lib.hid hpath
      clear hb6 HROW hprow hpl hpath
      go_wp2_with fail
      go_loopw [9, 10, 11, 12] (fun at_ all own i wr => ∃ k f : Nat, i = .int .i64 k ∧ k ≤ kl' ∧ at_ = .int .i64 f ∧ Hid (f = fromK (endO g) (p + 1) (kids.take k)) ∧ all = .string (strOfNums (segL es (p + 1) f)) ∧ own = .string (strOfNums (ownL es (endO g) (p + 1) (kids.take k))) ∧ Below w6.heap.size w6 wr) (fun _ _ _ i _ => kl' - (intOf i).toNat)
      case atStart => exact ⟨0, p + 1, rfl, by omega, by go_num, Lib.hid rfl, by rw [segL_same, strOfNums_nil], by simp [ownL, strOfNums], Below.refl _ _⟩
      case round =>
        obtain ⟨k, f, rfl, hk, rfl, HF, rfl, rfl, hbl⟩ := hrel
        by_cases hlt : k < kl'
        · have hd := decide_eq_true (show (k : Int) < (kl' : Int) by omega)
          obtain ⟨x, hx⟩ : ∃ x, kids[k]? = some x := ⟨_, List.getElem?_eq_getElem (by rw [HKL.out]; exact hlt)⟩
          obtain ⟨jx, hka⟩ := kidAt (k := k) (x := x) HNest.out HE.out (by rw [HKids.out]; exact hx)
          rw [HKids.out] at hka
          obtain ⟨kg, hkg⟩ : ∃ kg, ka = some ⟨kg, 0, none⟩ := by
            rcases HROW2.out.2 with ⟨h1, h2⟩ | ⟨g', cp, cur, h1, -⟩
            · omega
            · injection h1 with h2
              exact ⟨g', h2⟩
          subst hkg
          have hrow := own_below HROW2.out hbl (Nat.le_refl _)
          have kcell : wr.cell? ⟨kg, k, none⟩ = some (.int .i64 (x : Int)) := by
            have h1 := hrow.cells (g := kg) rfl k (.int .i64 (x : Int)) (by unfold natC; rw [List.map_map, List.getElem?_map, hx]; rfl)
            rwa [addr0, Nat.zero_add] at h1
          have hfx : f ≤ x := by rw [HF.out]; exact hka.le
          have hpf : p + 1 ≤ f := by rw [HF.out]; exact hka.from_
          have hxj := hka.lt
          have hje := hka.end_
          have r1 := decide_eq_false (show ¬ (x : Int) < (f : Int) by omega)
          have r2 := decide_eq_false (show ¬ (e : Int) ≤ (x : Int) by omega)
          have r1n := decide_eq_false (show ¬ x < f by omega)
          have r2n := decide_eq_false (show ¬ e ≤ x by omega)
          have HKA := Lib.hid hka
          have HX := Lib.hid hx
          clear hrow hka hx
          go_wp2_with fail
          obtain ⟨OW, hOW⟩ : ∃ o, ownL es (endO g) (p + 1) (kids.take k) = o := ⟨_, rfl⟩
          have hOWz : OW.length ≤ 42221246506500000 := by rw [← hOW]; exact ownL_size _ _ _ (by rw [List.length_take, HKL.out]; omega) OK.out.txs
          rw [hOW]
          have HOW := Lib.hid hOW
          have hbw := bt hb1 hbl
          clear hOW
          go_loopw [9, 10, 11] (fun at_ all own wi => ∃ t : Nat, at_ = .int .i64 t ∧ f ≤ t ∧ t ≤ x ∧ all = .string (strOfNums (segL es (p + 1) t)) ∧ own = .string (strOfNums (OW ++ segL es f t)) ∧ wi = wr) (fun at_ _ _ _ => x - (intOf at_).toNat)
          case atStart => exact ⟨f, rfl, Nat.le_refl _, hfx, rfl, by rw [segL_same, List.append_nil], rfl⟩
          case round =>
            obtain ⟨t, rfl, ht1, ht2, rfl, rfl, rfl⟩ := hrel
            by_cases htx : t < x
            · have s1 := decide_eq_true (show (t : Int) < (x : Int) by omega)
              obtain ⟨y, hy, hyk⟩ := HKA.out.text t (by rw [← HF.out]; exact ht1) htx
              obtain ⟨b', off', cap', av', hv', -, c0, c1, c2, c3, c4, -⟩ := HR.out.get hbw (Nat.le_refl _) t y hy
              rw [HN.out] at hv'
              cases hv'
              rw [hyk] at c0
              have htn : t < n := by omega
              have hz1 := segL_le es (p + 1) t
              have hz2 := segL_le es f t
              have hz3 := OK.out.txs
              have hz4 := OK.out.at_le (List.mem_of_getElem? hy)
              have ha1 : strOfNums (segL es (p + 1) t) ++ y.tx = strOfNums (segL es (p + 1) (t + 1)) := by rw [str_app_tx, segL_step (by omega) hy]
              have ha2 : strOfNums (OW ++ segL es f t) ++ y.tx = strOfNums (OW ++ segL es f (t + 1)) := by rw [str_app_tx, segL_step ht1 hy, List.append_assoc]
              have hq1 : ¬ (9223372036854775807 : Nat) < (strOfNums (segL es (p + 1) t)).size + y.tx.size := by rw [strOfNums_size]; omega
              have hq2 : ¬ (9223372036854775807 : Nat) < (strOfNums (OW ++ segL es f t)).size + y.tx.size := by rw [strOfNums_size, List.length_append]; omega
              obtain ⟨S1, hS1⟩ : ∃ s, strOfNums (segL es (p + 1) t) = s := ⟨_, rfl⟩
              obtain ⟨S2, hS2⟩ : ∃ s, strOfNums (OW ++ segL es f t) = s := ⟨_, rfl⟩
              rw [hS1] at ha1 hq1 ⊢
              rw [hS2] at ha2 hq2 ⊢
              have HA1 := Lib.hid ha1
              have HA2 := Lib.hid ha2
              clear ha1 ha2 hS1 hS2 hz1 hz2 hz3 hz4 hy
              go_wp2_with fail
              exact ⟨⟨t + 1, by go_num, by omega, by omega, by rw [HA1.out], by rw [HA2.out], trivial⟩, by simp [intOf]; omega⟩
            · have s1 := decide_eq_false (show ¬ (t : Int) < (x : Int) by omega)
              have htx2 : t = x := by omega
              subst htx2
              have hos : OW ++ segL es f t = ownL es (endO g) (p + 1) (kids.take (k + 1)) := by
                have h1 : kids.take (k + 1) = kids.take k ++ [t] := by rw [List.take_add_one, HX.out]; rfl
                rw [h1, ownL_snoc, HOW.out, ← HF.out]
              have hfs : jx + 1 = fromK (endO g) (p + 1) (kids.take (k + 1)) := by
                have h1 : kids.take (k + 1) = kids.take k ++ [t] := by rw [List.take_add_one, HX.out]; rfl
                rw [h1, fromK_snoc _ _ _ _ _ HKA.out.hE]
              rw [hos]
              have HFS := Lib.hid hfs
              have hjt := HKA.out.hE
              have hat := atP_of HG.out hjt
              have hev := (endV_some (growP_nest HG.out).2 hjt).1
              have KE1 := KE.out t
              rw [hat] at KE1
              have KE1 := Lib.hid KE1
              have HEV := Lib.hid hev
              have hpp : pathP es t = nmAt es (pathK (endO g) p (p + 1)) ++ [((es[t]?).map Evt.n).getD (⟨#[]⟩, ⟨#[]⟩)] := by
                unfold pathP
                rw [hat]
                simp only [Int.toNat_natCast]
                rw [pathK_kid HNest.out HE.out HKA.out]
                unfold nmAt
                rw [List.map_append]
                rfl
              obtain ⟨y, hy⟩ : ∃ y, es[t]? = some y := ⟨_, List.getElem?_eq_getElem (by rw [HN.out]; omega)⟩
              rw [hy] at hpp
              simp only [Option.map_some, Option.getD_some] at hpp
              have KP1 := KP.out t
              rw [hpp] at KP1
              have KP1 := Lib.hid KP1
              have KT1 := KT.out t
              rw [textP_of HG.out hjt] at KT1
              have KT1 := Lib.hid KT1
              have HY := Lib.hid hy
              clear hos hfs hjt hat hev hpp hy
              go_wp2_with fail
              refine (KE1.out _ hbw).mono ?_
              rintro r u1 ⟨hb, hr2⟩
              have hr2 : r = .returned (.tuple #[endV g t, .bool true]) := hr2
              rw [HEV.out] at hr2
              subst hr2
              have hbl1 := bt hbl hb
              have hrow1 := own_below HROW2.out hbl1 (Nat.le_refl _)
              have kcell1 : u1.cell? ⟨kg, k, none⟩ = some (.int .i64 (t : Int)) := by
                have h1 := hrow1.cells (g := kg) rfl k (.int .i64 (t : Int)) (by unfold natC; rw [List.map_map, List.getElem?_map, HX.out]; rfl)
                rwa [addr0, Nat.zero_add] at h1
              clear hb hrow1 kcell KE1
              go_wp2_with fail
              refine (KP1.out _ (bt hb1 hbl1)).mono ?_
              rintro r u2 ⟨qv, rfl, hqrow, hb⟩
              have hbl2 := bt hbl1 hb
              have hrow2 := own_below HROW2.out hbl2 (Nat.le_refl _)
              have kcell2 : u2.cell? ⟨kg, k, none⟩ = some (.int .i64 (t : Int)) := by
                have h1 := hrow2.cells (g := kg) rfl k (.int .i64 (t : Int)) (by unfold natC; rw [List.map_map, List.getElem?_map, HX.out]; rfl)
                rwa [addr0, Nat.zero_add] at h1
              unfold NmsR at hqrow
              have hql : (nmAt es (pathK (endO g) p (p + 1)) ++ [y.n]).length = pl' + 1 := by rw [List.length_append, ← HPath.out, HPL.out]; rfl
              rw [hql] at hqrow
              obtain ⟨qg, qc, rfl, hqc⟩ : ∃ g cp, qv = .slice (some ⟨g, 0, none⟩) (pl' + 1) cp ∧ pl' + 1 ≤ cp := by
                rcases hqrow.2 with ⟨-, h1⟩ | ⟨g, cp, cur, h1, h2, h3, h4, -⟩
                · omega
                · exact ⟨g, cp, h1, h4⟩
              have hat2 := nmC_at (nmAt es (pathK (endO g) p (p + 1)) ++ [y.n]) pl' y.n (by
                have : (nmAt es (pathK (endO g) p (p + 1))).length = pl' := by rw [← HPath.out, HPL.out]
                rw [← this]; simp)
              have n0 := hqrow.cells (g := qg) rfl _ _ hat2.1
              have n1 := hqrow.cells (g := qg) rfl _ _ hat2.2
              rw [addr0, Nat.zero_add] at n0 n1
              have hbw2 := bt hb1 hbl2
              obtain ⟨b', off', cap', av', hv', -, c0, c1, c2, c3, c4, -⟩ := HR.out.get hbw2 (Nat.le_refl _) t y HY.out
              rw [HN.out] at hv'
              cases hv'
              have htn : t < n := by omega
              have v1 := toL_self y.n.1
              have v2 := toL_self y.n.2
              have v3 := decide_eq_false (show ¬ (e : Int) ≤ (jx : Int) by omega)
              have v3n := decide_eq_false (show ¬ e ≤ jx by omega)
              have v4 : IntKind.i64.wrap ((pl' : Int) + 1) = (pl' : Int) + 1 := by rw [IntKind.wrap_i64]; omega
              have v5 : IntKind.i64.wrap ((pl' : Int) + 1 - 1) = (pl' : Int) := by rw [IntKind.wrap_i64]; omega
              clear hb hrow2 kcell1 hqrow hat2 hql KP1
              go_wp2_with fail
              go_quiet (fail)
              have hbw3 := below_dn hbw2 nq
              have hbl3 := below_dn hbl2 nq
              have kcell3 : (u2.drewN nq).cell? ⟨kg, k, none⟩ = some (.int .i64 (t : Int)) := kcell2
              clear c0 c1 c2 c3 c4 n0 n1 v1 v2 v4 v5 kcell2
              generalize u2.drewN nq = u3 at hbw3 hbl3 kcell3 ⊢
              go_wp2_with fail
              refine (KT1.out _ hbw3).mono ?_
              rintro r u4 ⟨rfl, hb⟩
              replace hbl3 := bt hbl3 hb
              have hseg : segL es (p + 1) t ++ txsL ((es.drop t).take (jx - t)) = segL es (p + 1) (jx + 1) := by
                obtain ⟨-, hjn, -, y2, -, hy2, -, hk2, -⟩ := HNest.out.lt t jx HKA.out.hE
                rw [show txsL ((es.drop t).take (jx - t)) = segL es t jx from rfl, segL_add (by omega) (by omega), segL_step (by omega) hy2, fld_end (growP_fld HG.out y2 (List.mem_of_getElem? hy2)) hk2, List.append_nil]
              have hz1 := segL_le es (p + 1) t
              have hz2 := segL_le es t jx
              have hz3 := OK.out.txs
              have hq1 : ¬ (9223372036854775807 : Nat) < (strOfNums (segL es (p + 1) t)).size + (strOfNums (txsL ((es.drop t).take (jx - t)))).size := by
                rw [strOfNums_size, strOfNums_size, show txsL ((es.drop t).take (jx - t)) = segL es t jx from rfl]
                omega
              have hA : strOfNums (segL es (p + 1) t) ++ strOfNums (txsL ((es.drop t).take (jx - t))) = strOfNums (segL es (p + 1) (jx + 1)) := by rw [strOfNums_app, hseg]
              obtain ⟨S1, hS1⟩ : ∃ s, strOfNums (segL es (p + 1) t) = s := ⟨_, rfl⟩
              obtain ⟨S2, hS2⟩ : ∃ s, strOfNums (txsL ((es.drop t).take (jx - t))) = s := ⟨_, rfl⟩
              rw [hS1, hS2] at hq1 hA
              rw [hS1, hS2]
              have HA := Lib.hid hA
              clear hA hS1 hS2 hseg hz1 hz2 hz3 hb kcell3 KT1
              go_wp2_with fail
              exact ⟨⟨k + 1, jx + 1, by go_num, by omega, by go_num, HFS, by rw [HA.out], rfl, hbl3⟩, by simp [intOf]; omega⟩
        · have hd := decide_eq_false (show ¬ (k : Int) < (kl' : Int) by omega)
          have hkk : kids.take k = kids := List.take_of_length_le (by rw [HKL.out]; omega)
          have hfe : p + 1 ≤ f ∧ f ≤ e := by
            rw [HF.out, hkk]
            rcases List.eq_nil_or_concat kids with h0 | ⟨ini, z, h0⟩
            · rw [h0, fromK_nil]; omega
            · rw [List.concat_eq_append] at h0
              have hz : kids[ini.length]? = some z := by rw [h0]; simp
              obtain ⟨jz, hka⟩ := kidAt (k := ini.length) (x := z) HNest.out HE.out (by rw [HKids.out]; exact hz)
              rw [h0, fromK_snoc _ _ _ _ _ hka.hE]
              have h1 := hka.from_
              have h2 := hka.le
              have h3 := hka.lt
              have h4 := hka.end_
              omega
          obtain ⟨OW, hOW⟩ : ∃ o, ownL es (endO g) (p + 1) (kids.take k) = o := ⟨_, rfl⟩
          have hOWz : OW.length ≤ 42221246506500000 := by rw [← hOW]; exact ownL_size _ _ _ (by rw [List.length_take, HKL.out]; omega) OK.out.txs
          rw [hOW]
          rw [hkk] at hOW
          have HOW := Lib.hid hOW
          have HFF : Hid (f = fromK (endO g) (p + 1) kids) := Lib.hid (by rw [HF.out, hkk])
          have hbw := bt hb1 hbl
          clear hOW hkk
          go_wp2_with fail
          go_loopw [9, 10, 11] (fun at_ all own wi => ∃ t : Nat, at_ = .int .i64 t ∧ f ≤ t ∧ t ≤ e ∧ all = .string (strOfNums (segL es (p + 1) t)) ∧ own = .string (strOfNums (OW ++ segL es f t)) ∧ wi = wr) (fun at_ _ _ _ => e - (intOf at_).toNat)
          case atStart => exact ⟨f, rfl, Nat.le_refl _, hfe.2, rfl, by rw [segL_same, List.append_nil], rfl⟩
          case round =>
            obtain ⟨t, rfl, ht1, ht2, rfl, rfl, rfl⟩ := hrel
            by_cases htx : t < e
            · have s1 := decide_eq_true (show (t : Int) < (e : Int) by omega)
              obtain ⟨y, hy⟩ : ∃ y, es[t]? = some y := ⟨_, List.getElem?_eq_getElem (by rw [HN.out]; omega)⟩
              obtain ⟨b', off', cap', av', hv', -, c0, c1, c2, c3, c4, -⟩ := HR.out.get hbw (Nat.le_refl _) t y hy
              rw [HN.out] at hv'
              cases hv'
              have htn : t < n := by omega
              have hz1 := segL_le es (p + 1) t
              have hz2 := segL_le es f t
              have hz3 := OK.out.txs
              have hz4 := OK.out.at_le (List.mem_of_getElem? hy)
              have ha1 : strOfNums (segL es (p + 1) t) ++ y.tx = strOfNums (segL es (p + 1) (t + 1)) := by rw [str_app_tx, segL_step (by omega) hy]
              have ha2 : strOfNums (OW ++ segL es f t) ++ y.tx = strOfNums (OW ++ segL es f (t + 1)) := by rw [str_app_tx, segL_step ht1 hy, List.append_assoc]
              have hq1 : ¬ (9223372036854775807 : Nat) < (strOfNums (segL es (p + 1) t)).size + y.tx.size := by rw [strOfNums_size]; omega
              have hq2 : ¬ (9223372036854775807 : Nat) < (strOfNums (OW ++ segL es f t)).size + y.tx.size := by rw [strOfNums_size, List.length_append]; omega
              obtain ⟨S1, hS1⟩ : ∃ s, strOfNums (segL es (p + 1) t) = s := ⟨_, rfl⟩
              obtain ⟨S2, hS2⟩ : ∃ s, strOfNums (OW ++ segL es f t) = s := ⟨_, rfl⟩
              rw [hS1] at ha1 hq1 ⊢
              rw [hS2] at ha2 hq2 ⊢
              have HA1 := Lib.hid ha1
              have HA2 := Lib.hid ha2
              clear ha1 ha2 hS1 hS2 hz1 hz2 hz3 hz4 hy
              go_wp2_with fail
              exact ⟨⟨t + 1, by go_num, by omega, by omega, by rw [HA1.out], by rw [HA2.out], trivial⟩, by simp [intOf]; omega⟩
            · have s1 := decide_eq_false (show ¬ (t : Int) < (e : Int) by omega)
              have htx2 : t = e := by omega
              subst htx2
              have hT : textP es p = segL es (p + 1) t := by
                rw [textP_of HG.out HE.out, show txsL ((es.drop p).take (t - p)) = segL es p t from rfl, ← segL_add (show p ≤ p + 1 by omega) (show p + 1 ≤ t by omega), segL_step (Nat.le_refl p) HX0.out, segL_same, List.nil_append]
                obtain ⟨-, -, y1, y2, hy1, -, hk1, -⟩ := HNest.out.lt p t HE.out
                rw [HX0.out] at hy1
                injection hy1 with hy1
                subst hy1
                rw [fld_start (growP_fld HG.out x0 (List.mem_of_getElem? HX0.out)) hk1, List.nil_append]
              have hO : ownP es p = OW ++ segL es f t := by rw [ownP_of HG.out HE.out, HKids.out, HOW.out, ← HFF.out]
              have KT1 := KT.out p
              have KO1 := KO.out p
              rw [hT] at KT1
              rw [hO] at KO1
              obtain ⟨S1, hS1⟩ : ∃ s, strOfNums (segL es (p + 1) t) = s := ⟨_, rfl⟩
              obtain ⟨S2, hS2⟩ : ∃ s, strOfNums (OW ++ segL es f t) = s := ⟨_, rfl⟩
              rw [hS1] at KT1 ⊢
              rw [hS2] at KO1 ⊢
              have KT1 := Lib.hid KT1
              have KO1 := Lib.hid KO1
              have v1 : (S1.toList == S1.toList) = true := by simp
              have v2 : (S2.toList == S2.toList) = true := by simp
              clear hT hO hS1 hS2
              go_wp2_with fail
              refine (KT1.out _ hbw).mono ?_
              rintro r u1 ⟨rfl, hb⟩
              replace hbw := bt hbw hb
              clear hb KT1
              go_wp2_with fail
              refine (KO1.out _ hbw).mono ?_
              rintro r u2 ⟨rfl, hb⟩
              replace hbw := bt hbw hb
              clear hb KO1
              go_wp2_with fail
              refine (WK.out _ hbw).mono ?_
              rintro r w9 ⟨rfl, hb9⟩
              go_wp2_with fail
              go_ret
              exact ⟨rfl, hb9⟩
end Go.Proofs.Yteefopeclfojiaa
