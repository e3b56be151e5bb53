/-
  Parts SnD SnE SnF of this seat's texts, in one file: contracts of functions that the law reaches, and the plain laws behind them. No condition.
-/
import Derived.Test.YthahfoliblgegaaGreatDoorG12
import Derived.WalkMore
import Derived.Test.YthahfoliblgegaaGreatDoorG4
import Derived.Test.YthahfoliblgegaaGreatDoorG6
import Derived.Test.YthahfoliblgegaaGreatDoorG3
import Derived.Laws.EntriesVeiled
/- 
  Layer 8: the walks of both Encoding.
 -/
namespace Go.Proofs.YthahfoliblgegaaGreatDoor
open Go.RowKit
/-- what is left to be asked, behind so many steps. -/
def remK (kind body : ByteArray) (j : Nat) (l : List Int) : Int × List Int := match j with
  | 0 => oneK kind body l
  | 1 => twoK body l
  | 2 => thrK body l
  | _ => (0, l)
/-- without a mark nothing is skipped. -/
def NoMk (b : Bool) (n : Nat) : Prop := b = false → n = 0
/-- what Encoding comes to. -/
def EncS (w w' : World) (R : Int × Nat × List Int) (e : Ending) : Prop :=
  ∃ v, e = .returned (.tuple #[.int .i8 R.1, .int .i64 R.2.1, v]) ∧ w'.ownsRow w.heap.size 34 2 v R.2.2.length (rsC (k0 R.2.2)) ∧ Below w.heap.size w w'
/-- the reasons so far. -/
structure SnI (w : World) (v : Value) (lk : List Int) (wr : World) : Prop where
  own : wr.ownsRow w.heap.size 34 2 v lk.length (rsC (k0 lk))
  bl : Below w.heap.size w wr
theorem SnI.below {w wr wx : World} {v : Value} {lk : List Int} (h : SnI w v lk wr) (hb : Below wr.heap.size wr wx) : SnI w v lk wx := ⟨own_below h.own hb (Nat.le_refl _), bt h.bl hb⟩
theorem SnI.alloc {w wr : World} {v : Value} {lk : List Int} (h : SnI w v lk wr) (o : Obj) : SnI w v lk (wr.alloc o) := h.below ((Below.refl _ wr).alloc (Nat.le_refl _) o)
theorem SnI.drewN {w wr : World} {v : Value} {lk : List Int} (h : SnI w v lk wr) (n : Nat) : SnI w v lk (wr.drewN n) := h.below (below_dn (Below.refl _ wr) n)
theorem SnI.add {w wr wx : World} {v v' : Value} {lk : List Int} (h : SnI w v lk wr) (k : Int) (h1 : wx.ownsRow w.heap.size 34 2 v' (lk.length + 1) (rsC (k0 lk) ++ [.int .i8 k, .int .i64 0])) (h2 : Below w.heap.size wr wx) : SnI w v' (lk ++ [k]) wx :=
  ⟨by rw [k0_app, rsC_app, List.length_append]; exact h1, h.bl.trans h2⟩
theorem SnI.nil (w : World) : SnI w (.slice none 0 0) [] w := ⟨⟨rfl, .inl ⟨rfl, rfl⟩⟩, Below.refl _ _⟩
theorem SnI.out {w w' : World} {v : Value} {R : Int × Nat × List Int} {e : Ending} (h : SnI w v R.2.2 w') (he : e = .returned (.tuple #[.int .i8 R.1, .int .i64 R.2.1, v])) : EncS w w' R e := ⟨v, he, h.own, h.bl⟩
/-- 'add' of one kind that was just laid. -/
theorem add_new (w : World) (base : Nat) (v : Value) (n : Nat) (xs : List Value) (hown : w.ownsRow base 34 2 v n xs) (k : Int) (hn : n < 1000000) (hbase : base ≤ w.heap.size) :
    Calls Tryz.prog 20 #[v, .slice (some ⟨w.heap.size, 0, none⟩) 1 1] (w.alloc (.cells #[.int .i8 k] 23)) fun e w' => ∃ v', e = .returned v' ∧ w'.ownsRow base 34 2 v' (n + 1) (xs ++ [.int .i8 k, .int .i64 0]) ∧ Below base w w' :=
  (sniff_add (w.alloc (.cells #[.int .i8 k] 23)) base v n xs (hown.alloc _) k w.heap.size (by rw [cell_of_row _ _ _ _ _ _ (heap_alloc_new w _)]; rfl) hn (by simp; omega)).mono fun e w' ⟨v', h1, h2, h3⟩ => ⟨v', h1, h2, ((Below.refl base w).alloc hbase _).trans h3⟩
set_option maxRecDepth 100000 in
set_option maxHeartbeats 8000000 in
theorem sniff_Encoding (kind body : ByteArray) (hk : kind.size ≤ 100000) (hs : body.size ≤ 1000000) (w : World) (m : Int) (hm : MaxAt w m) (ht : TabAt w) :
    Calls Tryz.prog 8 #[.string kind, .string body] w fun e w' => EncS w w' (encP kind body) e := by
  have HXM := Lib.hid (fun w => sniff_Xml kind w hk)
  have HMK := Lib.hid (fun w => declare_Mark body w)
  have HSH := Lib.hid (fun w => declare_Shape body w)
  have HSC := Lib.hid (fun w h => declare_Scan body hs w m h)
  have HMX := Lib.hid hm
  have HTB := Lib.hid ht
  have hcz := chsK_size kind
  have hsz := scan_size (nums body)
  have HLA := Lib.hid (fun (s : ByteArray) (h : s.size ≤ 1000000) w t => label_Of s h w t)
  -- Parse and Charset
  have hP := fun w => media_Parse kind w hk
  have hml := medR_len (nums kind)
  rw [nums_length] at hml
  have hch : chsK kind = charB (pairsOf (medR (parseN (nums kind))).2) := rfl
  obtain ⟨R0, hR0⟩ : ∃ R, parseN (nums kind) = R := ⟨_, rfl⟩
  rw [hR0] at hP hml hch
  obtain ⟨t, htt⟩ : ∃ t, strOfNums (medR R0).1 = t := ⟨_, rfl⟩
  obtain ⟨qs, hqq⟩ : ∃ qs, pairsOf (medR R0).2 = qs := ⟨_, rfl⟩
  have hql : qs.length ≤ 1000000 := by rw [← hqq, pairsOf_length]; omega
  obtain ⟨n, hn⟩ : ∃ n : Int, (if R0.isSome then (0 : Int) else 70) = n := ⟨_, rfl⟩
  rw [hqq] at hch
  have HP : Hid (∀ w, Calls Tryz.prog 22 #[.string kind] w fun e w' => ∃ v, e = .returned (.tuple #[.agg #[.string t, v], .int .i64 n]) ∧ Below w.heap.size w w' ∧ CReads w'.heap.size w' v qs.length (pairCells qs)) := Lib.hid fun w => (hP w).mono fun e w' h => by
    obtain ⟨v, h1, h2, h3⟩ := h.out
    rw [hn, htt] at h1
    rw [hqq] at h3
    exact ⟨v, h1, h2, h3⟩
  obtain ⟨cn, hcn⟩ : ∃ c, chsK kind = c := ⟨_, rfl⟩
  rw [hcn] at hch hcz
  have HCH := Lib.hid (fun B v w h1 h2 => media_Charset B t v qs w h1 h2 hql)
  rw [← hch] at HCH
  have HCN := Lib.hid hcn
  clear hP hml hR0 htt hqq hn hch hm ht hcn
  obtain ⟨cname, ctold⟩ := cn
  have hcz2 : cname.size ≤ 1000000 := Nat.le_trans hcz (by omega)
  clear hcz
  obtain ⟨sc, hsc⟩ : ∃ c, scnV (partsD (nums body)) = c := ⟨_, rfl⟩
  rw [hsc] at HSC hsz
  have HSCN := Lib.hid hsc
  clear hsc
  obtain ⟨sname, stold⟩ := sc
  have hsz2 : sname.size ≤ 1000000 := hsz
  clear hsz
  obtain ⟨sh, hsh⟩ : ∃ c, shpV (nums body) = c := ⟨_, rfl⟩
  rw [hsh] at HSH
  have HSHN := Lib.hid hsh
  clear hsh
  obtain ⟨she, sho⟩ := sh
  obtain ⟨mk, hmk⟩ : ∃ c, mrkV (nums body) = c := ⟨_, rfl⟩
  have hmn := mrkV_no (l := nums body)
  rw [hmk] at HMK hmn
  obtain ⟨me, mn, mo⟩ := mk
  have HMN : NoMk mo mn := hmn
  obtain ⟨R, hR⟩ : ∃ R, (if mo then (me, noneK kind) else oneK kind body (noneK kind)) = R := ⟨_, rfl⟩
  have hE : encP kind body = (R.1, mn, R.2) := by
    unfold encP
    rw [hmk, ← hR]
    cases mo with
    | true => rfl
    | false =>
      have := hmn rfl
      simp only at this
      subst this
      rfl
  rw [hE]
  have HR := Lib.hid hR
  clear hR hE hmk hmn
  obtain ⟨xm, hxm⟩ : ∃ x, xmlK kind = x := ⟨_, rfl⟩
  rw [hxm] at HXM
  have hnk : noneK kind = if xm then [] else [0] := by unfold noneK; rw [hxm]
  rw [hnk] at HR
  clear hnk hxm
  -- the head
  cases xm with
  | true =>
    have S0 := SnI.nil w
    have HR2 : Hid (R = if mo then (me, []) else remK kind body 0 []) := Lib.hid HR.out.symm
    clear HR
    go_enter Tryz.func8, Tryz.ntmps8
    go_wp2_with fail
    go_step3
    go_wp2_with fail
    refine (HXM.out _).mono ?_
    rintro e w1 ⟨rfl, hb1⟩
    have S1 := S0.below hb1
    clear S0 hb1
    go_wp2_with fail
    refine (HMK.out _).mono ?_
    rintro e w2 ⟨rfl, hb2⟩
    have S := S1.below hb2
    clear S1 hb2
    go_wp2_with fail
    go_step3
    go_wp2_with fail
    go_loopw [4, 6, 7, 25] (fun e v ok i wr => ∃ (j : Nat) (ev : Int) (lk : List Int) (b : Bool), e = .int .i8 ev ∧ ok = .bool b ∧ i = .int .i64 j ∧ j ≤ 3 ∧ lk.length ≤ 1 + j ∧ Hid (R = if b then (ev, lk) else remK kind body j lk) ∧ NoMk b mn ∧ SnI w v lk wr) (fun _ _ _ i _ => 3 - (intOf i).toNat)
    case atStart => exact ⟨0, me, _, mo, rfl, rfl, rfl, by omega, by simp, HR2, HMN, S⟩
    case round =>
      clear HR2 HMN S HMK
      obtain ⟨j, ev, lk, b, rfl, rfl, rfl, hj, hlk, HR3, HB, S⟩ := hrel
      by_cases hlt : j < 3
      · cases b with
        | true =>
          have HR4 : Hid (R = (ev, lk)) := HR3
          clear HR3 HB
          go_wp2_with fail
          try rw [Exit.noGoto_ret]
          go_ret3
          refine SnI.out (by rw [HR4.out]; exact S) ?_
          rw [HR4.out]
          rfl
        | false =>
          have HR4 : Hid (R = remK kind body j lk) := HR3
          clear HR3
          obtain rfl | rfl | rfl : j = 0 ∨ j = 1 ∨ j = 2 := by omega
          · have hq : R = oneK kind body lk := HR4.out
            unfold oneK at hq
            rw [HCN.out] at hq
            clear HR4
            go_wp2_with fail
            refine (HP.out _).mono ?_
            rintro e w4 ⟨vm, rfl, hb4, hrm⟩
            have hrm0 := hrm
            obtain ⟨ma, mc, rfl, -⟩ := hrm0
            have S4 := (S.below hb4).alloc (.cells #[.string t, .slice ma qs.length mc] 47)
            have hrm2 := hrm.below ((Below.refl _ w4).alloc (Nat.le_refl _) (.cells #[.string t, .slice ma qs.length mc] 47)) (Nat.le_refl _)
            clear S hb4 hrm
            go_wp2_with fail
            refine (HCH.out _ _ _ hrm2 (by simp)).mono ?_
            rintro e w5 ⟨rfl, hb5⟩
            have S5 := S4.below hb5
            clear S4 hb5 hrm2
            cases ctold with
            | false =>
              have HQ : Hid (R = twoK body lk) := Lib.hid hq
              clear hq
              go_wp2_with fail
              exact ⟨⟨1, _, lk, false, rfl, rfl, rfl, by omega, by omega, HQ, HB, S5⟩, by simp [intOf]⟩
            | true =>
              have hq2 : R = if (labS cname).2 then ((labS cname).1, lk) else twoK body (lk ++ [1]) := hq
              have hla := fun w t => HLA.out cname hcz2 w t
              obtain ⟨lb, hlb⟩ : ∃ l, labS cname = l := ⟨_, rfl⟩
              rw [hlb] at hq2
              rw [show ofS (wantS cname) = lb from hlb] at hla
              obtain ⟨le, lo⟩ := lb
              have HL := Lib.hid hla
              have HQ := Lib.hid hq2
              clear hq hq2 hla hlb
              go_wp2_with fail
              refine (HL.out _ (HTB.out.below S5.bl)).mono ?_
              rintro e w6 ⟨rfl, hb6⟩
              have S6 := S5.below hb6
              clear S5 hb6
              cases lo with
              | true =>
                go_wp2_with fail
                exact ⟨⟨1, le, lk, true, rfl, rfl, rfl, by omega, by omega, HQ, (fun h => by cases h), S6⟩, by simp [intOf]⟩
              | false =>
                go_wp2_with fail
                refine (add_new w6 w.heap.size _ lk.length _ S6.own 1 (by omega) S6.bl.size).mono ?_
                rintro e w7 ⟨v7, rfl, ho7, hb7⟩
                have S7 := S6.add 1 ho7 hb7
                clear S6 ho7 hb7
                go_wp2_with fail
                exact ⟨⟨1, le, lk ++ [1], false, rfl, rfl, rfl, by omega, by simp; omega, HQ, HB, S7⟩, by simp [intOf]⟩
          · have hq : R = twoK body lk := HR4.out
            unfold twoK at hq
            rw [HSHN.out] at hq
            have HQ := Lib.hid hq
            clear HR4 hq
            go_wp2_with fail
            refine (HSH.out _).mono ?_
            rintro e w4 ⟨rfl, hb4⟩
            have S4 := S.below hb4
            clear S hb4
            go_wp2_with fail
            exact ⟨⟨2, she, lk, sho, rfl, rfl, rfl, by omega, by omega, HQ, (fun _ => HB rfl), S4⟩, by simp [intOf]⟩
          · have hq : R = thrK body lk := HR4.out
            unfold thrK at hq
            rw [HSCN.out] at hq
            clear HR4
            go_wp2_with fail
            refine (HSC.out _ (HMX.out.below S.bl)).mono ?_
            rintro e w4 ⟨rfl, hb4⟩
            have S4 := S.below hb4
            clear S hb4
            cases stold with
            | false =>
              have HQ : Hid (R = (0, lk)) := Lib.hid hq
              clear hq
              go_wp2_with fail
              exact ⟨⟨3, _, lk, false, rfl, rfl, rfl, by omega, by omega, HQ, HB, S4⟩, by simp [intOf]⟩
            | true =>
              have hq2 : R = if (labS sname).2 && !(decide ((labS sname).1 = 1) || decide ((labS sname).1 = 2)) then ((labS sname).1, lk) else (0, lk ++ [1]) := hq
              have hla := fun w t => HLA.out sname hsz2 w t
              obtain ⟨lb, hlb⟩ : ∃ l, labS sname = l := ⟨_, rfl⟩
              rw [hlb] at hq2
              rw [show ofS (wantS sname) = lb from hlb] at hla
              obtain ⟨le, lo⟩ := lb
              have HL := Lib.hid hla
              simp only at hq2
              have HQ := Lib.hid hq2
              clear hq hq2 hla hlb
              go_wp2_with fail
              refine (HL.out _ (HTB.out.below S4.bl)).mono ?_
              rintro e w6 ⟨rfl, hb6⟩
              have S6 := S4.below hb6
              clear S4 hb6
              obtain ⟨lo2, hlo2⟩ : ∃ x, (lo && !(decide (le = 1) || decide (le = 2))) = x := ⟨_, rfl⟩
              have HQ2 : Hid (R = if lo2 then (le, lk) else (0, lk ++ [1])) := Lib.hid (by rw [← hlo2]; exact HQ.out)
              clear HQ
              cases lo2 with
              | true =>
                simp only [Bool.and_eq_true, Bool.not_eq_true', Bool.or_eq_false_iff, decide_eq_false_iff_not] at hlo2
                obtain ⟨rfl, h1, h2⟩ := hlo2
                have g1 : (le != 1) = true := by simpa using h1
                have g2 : (le != 2) = true := by simpa using h2
                clear h1 h2
                go_wp2_with fail
                exact ⟨⟨3, le, lk, true, rfl, rfl, rfl, by omega, by omega, HQ2, (fun h => by cases h), S6⟩, by simp [intOf]⟩
              | false =>
                obtain rfl | ⟨rfl, rfl⟩ | ⟨rfl, rfl⟩ : lo = false ∨ (lo = true ∧ le = 1) ∨ (lo = true ∧ le = 2) := by
                  cases lo with
                  | false => exact .inl rfl
                  | true =>
                    by_cases h1 : le = 1
                    · exact .inr (.inl ⟨rfl, h1⟩)
                    · by_cases h2 : le = 2
                      · exact .inr (.inr ⟨rfl, h2⟩)
                      · simp [h1, h2] at hlo2
                all_goals
                  clear hlo2
                  go_wp2_with fail
                  refine (add_new w6 w.heap.size _ lk.length _ S6.own 1 (by omega) S6.bl.size).mono ?_
                  rintro e w7 ⟨v7, rfl, ho7, hb7⟩
                  have S7 := S6.add 1 ho7 hb7
                  clear S6 ho7 hb7
                  go_wp2_with fail
                  exact ⟨⟨3, _, lk ++ [1], false, rfl, rfl, rfl, by omega, by simp; omega, HQ2, HB, S7⟩, by simp [intOf]⟩
      · obtain rfl : j = 3 := by omega
        cases b with
        | true =>
          have HR4 : Hid (R = (ev, lk)) := HR3
          clear HR3 HB
          go_wp2_with fail
          try rw [Exit.noGoto_ret]
          go_ret3
          refine SnI.out (by rw [HR4.out]; exact S) ?_
          rw [HR4.out]
          rfl
        | false =>
          have HR4 : Hid (R = (0, lk)) := HR3
          have hmn := HB rfl
          subst hmn
          clear HR3 HB
          go_wp2_with fail
          try rw [Exit.noGoto_ret]
          go_ret3
          refine SnI.out (by rw [HR4.out]; exact S) ?_
          rw [HR4.out]
          rfl
  | false =>
    have S0 := SnI.nil w
    have HR2 : Hid (R = if mo then (me, [0]) else remK kind body 0 [0]) := Lib.hid HR.out.symm
    clear HR
    go_enter Tryz.func8, Tryz.ntmps8
    go_wp2_with fail
    go_step3
    go_wp2_with fail
    refine (HXM.out _).mono ?_
    rintro e w1 ⟨rfl, hb1⟩
    have S1 := S0.below hb1
    clear S0 hb1
    go_wp2_with fail
    refine (add_new w1 w.heap.size _ 0 _ S1.own 0 (by omega) S1.bl.size).mono ?_
    rintro e w2 ⟨v2, rfl, ho2, hb2⟩
    have S2 := S1.add 0 ho2 hb2
    clear S1 ho2 hb2
    go_wp2_with fail
    refine (HMK.out _).mono ?_
    rintro e w3 ⟨rfl, hb3⟩
    have S := S2.below hb3
    clear S2 hb3
    go_wp2_with fail
    go_step3
    go_wp2_with fail
    go_loopw [4, 6, 7, 25] (fun e v ok i wr => ∃ (j : Nat) (ev : Int) (lk : List Int) (b : Bool), e = .int .i8 ev ∧ ok = .bool b ∧ i = .int .i64 j ∧ j ≤ 3 ∧ lk.length ≤ 1 + j ∧ Hid (R = if b then (ev, lk) else remK kind body j lk) ∧ NoMk b mn ∧ SnI w v lk wr) (fun _ _ _ i _ => 3 - (intOf i).toNat)
    case atStart => exact ⟨0, me, _, mo, rfl, rfl, rfl, by omega, by simp, HR2, HMN, S⟩
    case round =>
      clear HR2 HMN S HMK
      obtain ⟨j, ev, lk, b, rfl, rfl, rfl, hj, hlk, HR3, HB, S⟩ := hrel
      by_cases hlt : j < 3
      · cases b with
        | true =>
          have HR4 : Hid (R = (ev, lk)) := HR3
          clear HR3 HB
          go_wp2_with fail
          try rw [Exit.noGoto_ret]
          go_ret3
          refine SnI.out (by rw [HR4.out]; exact S) ?_
          rw [HR4.out]
          rfl
        | false =>
          have HR4 : Hid (R = remK kind body j lk) := HR3
          clear HR3
          obtain rfl | rfl | rfl : j = 0 ∨ j = 1 ∨ j = 2 := by omega
          · have hq : R = oneK kind body lk := HR4.out
            unfold oneK at hq
            rw [HCN.out] at hq
            clear HR4
            go_wp2_with fail
            refine (HP.out _).mono ?_
            rintro e w4 ⟨vm, rfl, hb4, hrm⟩
            have hrm0 := hrm
            obtain ⟨ma, mc, rfl, -⟩ := hrm0
            have S4 := (S.below hb4).alloc (.cells #[.string t, .slice ma qs.length mc] 47)
            have hrm2 := hrm.below ((Below.refl _ w4).alloc (Nat.le_refl _) (.cells #[.string t, .slice ma qs.length mc] 47)) (Nat.le_refl _)
            clear S hb4 hrm
            go_wp2_with fail
            refine (HCH.out _ _ _ hrm2 (by simp)).mono ?_
            rintro e w5 ⟨rfl, hb5⟩
            have S5 := S4.below hb5
            clear S4 hb5 hrm2
            cases ctold with
            | false =>
              have HQ : Hid (R = twoK body lk) := Lib.hid hq
              clear hq
              go_wp2_with fail
              exact ⟨⟨1, _, lk, false, rfl, rfl, rfl, by omega, by omega, HQ, HB, S5⟩, by simp [intOf]⟩
            | true =>
              have hq2 : R = if (labS cname).2 then ((labS cname).1, lk) else twoK body (lk ++ [1]) := hq
              have hla := fun w t => HLA.out cname hcz2 w t
              obtain ⟨lb, hlb⟩ : ∃ l, labS cname = l := ⟨_, rfl⟩
              rw [hlb] at hq2
              rw [show ofS (wantS cname) = lb from hlb] at hla
              obtain ⟨le, lo⟩ := lb
              have HL := Lib.hid hla
              have HQ := Lib.hid hq2
              clear hq hq2 hla hlb
              go_wp2_with fail
              refine (HL.out _ (HTB.out.below S5.bl)).mono ?_
              rintro e w6 ⟨rfl, hb6⟩
              have S6 := S5.below hb6
              clear S5 hb6
              cases lo with
              | true =>
                go_wp2_with fail
                exact ⟨⟨1, le, lk, true, rfl, rfl, rfl, by omega, by omega, HQ, (fun h => by cases h), S6⟩, by simp [intOf]⟩
              | false =>
                go_wp2_with fail
                refine (add_new w6 w.heap.size _ lk.length _ S6.own 1 (by omega) S6.bl.size).mono ?_
                rintro e w7 ⟨v7, rfl, ho7, hb7⟩
                have S7 := S6.add 1 ho7 hb7
                clear S6 ho7 hb7
                go_wp2_with fail
                exact ⟨⟨1, le, lk ++ [1], false, rfl, rfl, rfl, by omega, by simp; omega, HQ, HB, S7⟩, by simp [intOf]⟩
          · have hq : R = twoK body lk := HR4.out
            unfold twoK at hq
            rw [HSHN.out] at hq
            have HQ := Lib.hid hq
            clear HR4 hq
            go_wp2_with fail
            refine (HSH.out _).mono ?_
            rintro e w4 ⟨rfl, hb4⟩
            have S4 := S.below hb4
            clear S hb4
            go_wp2_with fail
            exact ⟨⟨2, she, lk, sho, rfl, rfl, rfl, by omega, by omega, HQ, (fun _ => HB rfl), S4⟩, by simp [intOf]⟩
          · have hq : R = thrK body lk := HR4.out
            unfold thrK at hq
            rw [HSCN.out] at hq
            clear HR4
            go_wp2_with fail
            refine (HSC.out _ (HMX.out.below S.bl)).mono ?_
            rintro e w4 ⟨rfl, hb4⟩
            have S4 := S.below hb4
            clear S hb4
            cases stold with
            | false =>
              have HQ : Hid (R = (0, lk)) := Lib.hid hq
              clear hq
              go_wp2_with fail
              exact ⟨⟨3, _, lk, false, rfl, rfl, rfl, by omega, by omega, HQ, HB, S4⟩, by simp [intOf]⟩
            | true =>
              have hq2 : R = if (labS sname).2 && !(decide ((labS sname).1 = 1) || decide ((labS sname).1 = 2)) then ((labS sname).1, lk) else (0, lk ++ [1]) := hq
              have hla := fun w t => HLA.out sname hsz2 w t
              obtain ⟨lb, hlb⟩ : ∃ l, labS sname = l := ⟨_, rfl⟩
              rw [hlb] at hq2
              rw [show ofS (wantS sname) = lb from hlb] at hla
              obtain ⟨le, lo⟩ := lb
              have HL := Lib.hid hla
              simp only at hq2
              have HQ := Lib.hid hq2
              clear hq hq2 hla hlb
              go_wp2_with fail
              refine (HL.out _ (HTB.out.below S4.bl)).mono ?_
              rintro e w6 ⟨rfl, hb6⟩
              have S6 := S4.below hb6
              clear S4 hb6
              obtain ⟨lo2, hlo2⟩ : ∃ x, (lo && !(decide (le = 1) || decide (le = 2))) = x := ⟨_, rfl⟩
              have HQ2 : Hid (R = if lo2 then (le, lk) else (0, lk ++ [1])) := Lib.hid (by rw [← hlo2]; exact HQ.out)
              clear HQ
              cases lo2 with
              | true =>
                simp only [Bool.and_eq_true, Bool.not_eq_true', Bool.or_eq_false_iff, decide_eq_false_iff_not] at hlo2
                obtain ⟨rfl, h1, h2⟩ := hlo2
                have g1 : (le != 1) = true := by simpa using h1
                have g2 : (le != 2) = true := by simpa using h2
                clear h1 h2
                go_wp2_with fail
                exact ⟨⟨3, le, lk, true, rfl, rfl, rfl, by omega, by omega, HQ2, (fun h => by cases h), S6⟩, by simp [intOf]⟩
              | false =>
                obtain rfl | ⟨rfl, rfl⟩ | ⟨rfl, rfl⟩ : lo = false ∨ (lo = true ∧ le = 1) ∨ (lo = true ∧ le = 2) := by
                  cases lo with
                  | false => exact .inl rfl
                  | true =>
                    by_cases h1 : le = 1
                    · exact .inr (.inl ⟨rfl, h1⟩)
                    · by_cases h2 : le = 2
                      · exact .inr (.inr ⟨rfl, h2⟩)
                      · simp [h1, h2] at hlo2
                all_goals
                  clear hlo2
                  go_wp2_with fail
                  refine (add_new w6 w.heap.size _ lk.length _ S6.own 1 (by omega) S6.bl.size).mono ?_
                  rintro e w7 ⟨v7, rfl, ho7, hb7⟩
                  have S7 := S6.add 1 ho7 hb7
                  clear S6 ho7 hb7
                  go_wp2_with fail
                  exact ⟨⟨3, _, lk ++ [1], false, rfl, rfl, rfl, by omega, by simp; omega, HQ2, HB, S7⟩, by simp [intOf]⟩
      · obtain rfl : j = 3 := by omega
        cases b with
        | true =>
          have HR4 : Hid (R = (ev, lk)) := HR3
          clear HR3 HB
          go_wp2_with fail
          try rw [Exit.noGoto_ret]
          go_ret3
          refine SnI.out (by rw [HR4.out]; exact S) ?_
          rw [HR4.out]
          rfl
        | false =>
          have HR4 : Hid (R = (0, lk)) := HR3
          have hmn := HB rfl
          subst hmn
          clear HR3 HB
          go_wp2_with fail
          try rw [Exit.noGoto_ret]
          go_ret3
          refine SnI.out (by rw [HR4.out]; exact S) ?_
          rw [HR4.out]
          rfl
end Go.Proofs.YthahfoliblgegaaGreatDoor
/- 
  Layer 8: the walk of the document's Encoding.
 -/
namespace Go.Proofs.YthahfoliblgegaaGreatDoor
open Go.RowKit
set_option maxRecDepth 100000 in
set_option maxHeartbeats 8000000 in
theorem ref08_Encoding (kind body : ByteArray) (hk : kind.size ≤ 100000) (hs : body.size ≤ 1000000) (w : World) :
    Calls Tryz.prog 9 #[.string kind, .string body] w fun e w' => EncS w w' (encP kind body) e := by
  have HXM := Lib.hid (fun w => ref08_Xml kind w hk)
  have HMK := Lib.hid (fun w => ref07_Mark body w)
  have HSH := Lib.hid (fun w => ref07_Shape body w)
  have HSC := Lib.hid (fun w => ref07_Scan body hs w)
  have hcz := chsK_size kind
  have hsz := scan_size (nums body)
  have HLA := Lib.hid (fun (s : ByteArray) (h : s.size ≤ 1000000) w => ref05_Of s h w)
  have hP := fun w => ref06_Parse kind w hk
  have hml := medR_len (nums kind)
  rw [nums_length] at hml
  have hch : chsK kind = charB (pairsOf (medR (parseN (nums kind))).2) := rfl
  obtain ⟨R0, hR0⟩ : ∃ R, parseN (nums kind) = R := ⟨_, rfl⟩
  rw [hR0] at hP hml hch
  obtain ⟨t, htt⟩ : ∃ t, strOfNums (medR R0).1 = t := ⟨_, rfl⟩
  obtain ⟨qs, hqq⟩ : ∃ qs, pairsOf (medR R0).2 = qs := ⟨_, rfl⟩
  have hql : qs.length ≤ 1000000 := by rw [← hqq, pairsOf_length]; omega
  obtain ⟨n, hn⟩ : ∃ n : Int, (if R0.isSome then (0 : Int) else 70) = n := ⟨_, rfl⟩
  rw [hqq] at hch
  have HP : Hid (∀ w, Calls Tryz.prog 28 #[.string kind] w fun e w' => ∃ v, e = .returned (.tuple #[.agg #[.string t, v], .int .i64 n]) ∧ Below w.heap.size w w' ∧ CReads w'.heap.size w' v qs.length (pairCells qs)) := Lib.hid fun w => (hP w).mono fun e w' h => by
    obtain ⟨v, h1, h2, h3⟩ := h.out
    rw [hn, htt] at h1
    rw [hqq] at h3
    exact ⟨v, h1, h2, h3⟩
  obtain ⟨cn, hcn⟩ : ∃ c, chsK kind = c := ⟨_, rfl⟩
  rw [hcn] at hch hcz
  have HCH := Lib.hid (fun B v w h1 h2 => ref06_Charset B t v qs w h1 h2 hql)
  rw [← hch] at HCH
  have HCN := Lib.hid hcn
  clear hP hml hR0 htt hqq hn hch hcn
  obtain ⟨cname, ctold⟩ := cn
  have hcz2 : cname.size ≤ 1000000 := Nat.le_trans hcz (by omega)
  clear hcz
  obtain ⟨sc, hsc⟩ : ∃ c, scnV (partsD (nums body)) = c := ⟨_, rfl⟩
  rw [hsc] at HSC hsz
  have HSCN := Lib.hid hsc
  clear hsc
  obtain ⟨sname, stold⟩ := sc
  have hsz2 : sname.size ≤ 1000000 := hsz
  clear hsz
  obtain ⟨sh, hsh⟩ : ∃ c, shpV (nums body) = c := ⟨_, rfl⟩
  rw [hsh] at HSH
  have HSHN := Lib.hid hsh
  clear hsh
  obtain ⟨she, sho⟩ := sh
  obtain ⟨mk, hmk⟩ : ∃ c, mrkV (nums body) = c := ⟨_, rfl⟩
  rw [hmk] at HMK
  obtain ⟨me, mn, mo⟩ := mk
  obtain ⟨R, hR⟩ : ∃ R, encP kind body = R := ⟨_, rfl⟩
  rw [hR]
  unfold encP at hR
  rw [hmk] at hR
  obtain ⟨xm, hxm⟩ : ∃ x, xmlK kind = x := ⟨_, rfl⟩
  rw [hxm] at HXM
  have hnk : noneK kind = if xm then [] else [0] := by unfold noneK; rw [hxm]
  rw [hnk] at hR
  have HR := Lib.hid hR
  clear hnk hxm hmk hR
  have S0 := SnI.nil w
  cases xm with
  | true =>
    have HR2 : Hid (R = if mo then (me, mn, []) else ((oneK kind body []).1, 0, (oneK kind body []).2)) := Lib.hid HR.out.symm
    clear HR
    go_enter Tryz.func9, Tryz.ntmps9
    go_wp2_with fail
    refine (HXM.out _).mono ?_
    rintro e w1 ⟨rfl, hb1⟩
    have S := S0.below hb1
    clear S0 hb1
    go_wp2_with fail
    refine (HMK.out _).mono ?_
    rintro e w3 ⟨rfl, rfl⟩
    cases mo with
    | true =>
      have HR3 : Hid (R = (me, mn, ([] : List Int))) := HR2
      clear HR2
      go_wp2_with fail
      go_ret3
      refine SnI.out (by rw [HR3.out]; exact S) ?_
      rw [HR3.out]
      rfl
    | false =>
      have hq : R = ((oneK kind body ([] : List Int)).1, 0, (oneK kind body ([] : List Int)).2) := HR2.out
      unfold oneK at hq
      rw [HCN.out] at hq
      clear HR2
      go_wp2_with fail
      refine (HP.out _).mono ?_
      rintro e w4 ⟨vm, rfl, hb4, hrm⟩
      have hrm0 := hrm
      obtain ⟨ma, mc, rfl, -⟩ := hrm0
      have S4 := (S.below hb4).alloc (.cells #[.string t, .slice ma qs.length mc] 47)
      have hrm2 := hrm.below ((Below.refl _ w4).alloc (Nat.le_refl _) (.cells #[.string t, .slice ma qs.length mc] 47)) (Nat.le_refl _)
      clear S hb4 hrm
      go_wp2_with fail
      refine (HCH.out _ _ _ hrm2 (by simp)).mono ?_
      rintro e w5 ⟨rfl, hb5⟩
      have S5 := S4.below hb5
      clear S4 hb5 hrm2
      cases ctold with
      | false =>
        have HQ : Hid (R = ((twoK body ([] : List Int)).1, 0, (twoK body ([] : List Int)).2)) := Lib.hid hq
        clear hq
        go_wp2_with fail
        refine (HSH.out _).mono ?_
        rintro e w8 ⟨rfl, rfl⟩
        have hq : R = ((twoK body (([] : List Int))).1, 0, (twoK body (([] : List Int))).2) := HQ.out
        unfold twoK at hq
        rw [HSHN.out] at hq
        clear HQ
        cases sho with
        | true =>
          have HQ : Hid (R = (she, 0, ([] : List Int))) := Lib.hid hq
          clear hq
          go_wp2_with fail
          go_ret3
          refine SnI.out (by rw [HQ.out]; exact S5) ?_
          rw [HQ.out]
          rfl
        | false =>
          have hq2 : R = ((thrK body (([] : List Int))).1, 0, (thrK body (([] : List Int))).2) := hq
          unfold thrK at hq2
          rw [HSCN.out] at hq2
          clear hq
          go_wp2_with fail
          refine (HSC.out _).mono ?_
          rintro e w9 ⟨rfl, hb9⟩
          have S9 := S5.below hb9
          clear S5 hb9
          cases stold with
          | false =>
            have HQ : Hid (R = (0, 0, ([] : List Int))) := Lib.hid hq2
            clear hq2
            go_wp2_with fail
            go_ret3
            refine SnI.out (by rw [HQ.out]; exact S9) ?_
            rw [HQ.out]
            rfl
          | true =>
            have hla := fun w => HLA.out sname hsz2 w
            obtain ⟨lb, hlb⟩ : ∃ l, labS sname = l := ⟨_, rfl⟩
            simp only [hlb, if_true] at hq2
            rw [show ofS (wantS sname) = lb from hlb] at hla
            obtain ⟨le, lo⟩ := lb
            have HL := Lib.hid hla
            obtain ⟨lo2, hlo2⟩ : ∃ x, (lo && !(decide (le = 1) || decide (le = 2))) = x := ⟨_, rfl⟩
            simp only [hlo2] at hq2
            clear hla hlb
            cases lo2 with
            | true =>
              have HQ : Hid (R = (le, 0, ([] : List Int))) := Lib.hid hq2
              simp only [Bool.and_eq_true, Bool.not_eq_true', Bool.or_eq_false_iff, decide_eq_false_iff_not] at hlo2
              obtain ⟨rfl, g1, g2⟩ := hlo2
              have g1 : (le != 1) = true := by simpa using g1
              have g2 : (le != 2) = true := by simpa using g2
              clear hq2
              go_wp2_with fail
              refine (HL.out _).mono ?_
              rintro e wa ⟨rfl, hba⟩
              have Sa := S9.below hba
              clear S9 hba
              go_wp2_with fail
              go_ret3
              refine SnI.out (by rw [HQ.out]; exact Sa) ?_
              rw [HQ.out]
              rfl
            | false =>
              have HQ : Hid (R = (0, 0, ([] : List Int) ++ [1])) := Lib.hid hq2
              clear hq2
              obtain rfl | ⟨rfl, rfl⟩ | ⟨rfl, rfl⟩ : lo = false ∨ (lo = true ∧ le = 1) ∨ (lo = true ∧ le = 2) := by
                cases lo with
                | false => exact .inl rfl
                | true =>
                  by_cases h1 : le = 1
                  · exact .inr (.inl ⟨rfl, h1⟩)
                  · by_cases h2 : le = 2
                    · exact .inr (.inr ⟨rfl, h2⟩)
                    · simp [h1, h2] at hlo2
              all_goals
                clear hlo2
                go_wp2_with fail
                refine (HL.out _).mono ?_
                rintro e wa ⟨rfl, hba⟩
                have Sa := S9.below hba
                obtain ⟨va, wb, h1, h2, h3⟩ := app_rs wa w.heap.size _ _ _ Sa.own 1 0 (by simp) Sa.bl.size
                have HA := Lib.hid h1
                have Sb := Sa.add 1 h2 h3
                clear S9 Sa hba h1 h2 h3
                go_wp2_with (at_builtin; refine wpList_append_run rfl _ _ _ _ rfl _ _ rfl rfl _ _ HA.out ?_)
                go_ret3
                refine SnI.out (by rw [HQ.out]; exact Sb) ?_
                rw [HQ.out]
                rfl
      | true =>
        have hq2 : R = ((if (labS cname).2 then ((labS cname).1, ([] : List Int)) else twoK body (([] : List Int) ++ [1])).1, 0, (if (labS cname).2 then ((labS cname).1, ([] : List Int)) else twoK body (([] : List Int) ++ [1])).2) := hq
        have hla := fun w => HLA.out cname hcz2 w
        obtain ⟨lb, hlb⟩ : ∃ l, labS cname = l := ⟨_, rfl⟩
        rw [hlb] at hq2
        rw [show ofS (wantS cname) = lb from hlb] at hla
        obtain ⟨le, lo⟩ := lb
        have HL := Lib.hid hla
        cases lo with
        | true =>
          have HQ : Hid (R = (le, 0, ([] : List Int))) := Lib.hid hq2
          clear hq hq2 hla hlb
          go_wp2_with fail
          refine (HL.out _).mono ?_
          rintro e w6 ⟨rfl, hb6⟩
          have S6 := S5.below hb6
          clear S5 hb6
          go_wp2_with fail
          go_ret3
          refine SnI.out (by rw [HQ.out]; exact S6) ?_
          rw [HQ.out]
          rfl
        | false =>
          have HQ : Hid (R = ((twoK body (([] : List Int) ++ [1])).1, 0, (twoK body (([] : List Int) ++ [1])).2)) := Lib.hid hq2
          clear hq hq2 hla hlb
          go_wp2_with fail
          refine (HL.out _).mono ?_
          rintro e w6 ⟨rfl, hb6⟩
          have S6 := S5.below hb6
          obtain ⟨v6, w7, h1, h2, h3⟩ := app_rs w6 w.heap.size _ _ _ S6.own 1 0 (by simp) S6.bl.size
          have HA := Lib.hid h1
          have S5 := S6.add 1 h2 h3
          clear S6 hb6 h1 h2 h3
          go_wp2_with (at_builtin; refine wpList_append_run rfl _ _ _ _ rfl _ _ rfl rfl _ _ HA.out ?_)
          clear HA
          refine (HSH.out _).mono ?_
          rintro e w8 ⟨rfl, rfl⟩
          have hq : R = ((twoK body (([] : List Int) ++ [1])).1, 0, (twoK body (([] : List Int) ++ [1])).2) := HQ.out
          unfold twoK at hq
          rw [HSHN.out] at hq
          clear HQ
          cases sho with
          | true =>
            have HQ : Hid (R = (she, 0, ([] : List Int) ++ [1])) := Lib.hid hq
            clear hq
            go_wp2_with fail
            go_ret3
            refine SnI.out (by rw [HQ.out]; exact S5) ?_
            rw [HQ.out]
            rfl
          | false =>
            have hq2 : R = ((thrK body (([] : List Int) ++ [1])).1, 0, (thrK body (([] : List Int) ++ [1])).2) := hq
            unfold thrK at hq2
            rw [HSCN.out] at hq2
            clear hq
            go_wp2_with fail
            refine (HSC.out _).mono ?_
            rintro e w9 ⟨rfl, hb9⟩
            have S9 := S5.below hb9
            clear S5 hb9
            cases stold with
            | false =>
              have HQ : Hid (R = (0, 0, ([] : List Int) ++ [1])) := Lib.hid hq2
              clear hq2
              go_wp2_with fail
              go_ret3
              refine SnI.out (by rw [HQ.out]; exact S9) ?_
              rw [HQ.out]
              rfl
            | true =>
              have hla := fun w => HLA.out sname hsz2 w
              obtain ⟨lb, hlb⟩ : ∃ l, labS sname = l := ⟨_, rfl⟩
              simp only [hlb, if_true] at hq2
              rw [show ofS (wantS sname) = lb from hlb] at hla
              obtain ⟨le, lo⟩ := lb
              have HL := Lib.hid hla
              obtain ⟨lo2, hlo2⟩ : ∃ x, (lo && !(decide (le = 1) || decide (le = 2))) = x := ⟨_, rfl⟩
              simp only [hlo2] at hq2
              clear hla hlb
              cases lo2 with
              | true =>
                have HQ : Hid (R = (le, 0, ([] : List Int) ++ [1])) := Lib.hid hq2
                simp only [Bool.and_eq_true, Bool.not_eq_true', Bool.or_eq_false_iff, decide_eq_false_iff_not] at hlo2
                obtain ⟨rfl, g1, g2⟩ := hlo2
                have g1 : (le != 1) = true := by simpa using g1
                have g2 : (le != 2) = true := by simpa using g2
                clear hq2
                go_wp2_with fail
                refine (HL.out _).mono ?_
                rintro e wa ⟨rfl, hba⟩
                have Sa := S9.below hba
                clear S9 hba
                go_wp2_with fail
                go_ret3
                refine SnI.out (by rw [HQ.out]; exact Sa) ?_
                rw [HQ.out]
                rfl
              | false =>
                have HQ : Hid (R = (0, 0, ([] : List Int) ++ [1] ++ [1])) := Lib.hid hq2
                clear hq2
                obtain rfl | ⟨rfl, rfl⟩ | ⟨rfl, rfl⟩ : lo = false ∨ (lo = true ∧ le = 1) ∨ (lo = true ∧ le = 2) := by
                  cases lo with
                  | false => exact .inl rfl
                  | true =>
                    by_cases h1 : le = 1
                    · exact .inr (.inl ⟨rfl, h1⟩)
                    · by_cases h2 : le = 2
                      · exact .inr (.inr ⟨rfl, h2⟩)
                      · simp [h1, h2] at hlo2
                all_goals
                  clear hlo2
                  go_wp2_with fail
                  refine (HL.out _).mono ?_
                  rintro e wa ⟨rfl, hba⟩
                  have Sa := S9.below hba
                  obtain ⟨va, wb, h1, h2, h3⟩ := app_rs wa w.heap.size _ _ _ Sa.own 1 0 (by simp) Sa.bl.size
                  have HA := Lib.hid h1
                  have Sb := Sa.add 1 h2 h3
                  clear S9 Sa hba h1 h2 h3
                  go_wp2_with (at_builtin; refine wpList_append_run rfl _ _ _ _ rfl _ _ rfl rfl _ _ HA.out ?_)
                  go_ret3
                  refine SnI.out (by rw [HQ.out]; exact Sb) ?_
                  rw [HQ.out]
                  rfl
  | false =>
    have HR2 : Hid (R = if mo then (me, mn, [0]) else ((oneK kind body [0]).1, 0, (oneK kind body [0]).2)) := Lib.hid HR.out.symm
    clear HR
    go_enter Tryz.func9, Tryz.ntmps9
    go_wp2_with fail
    refine (HXM.out _).mono ?_
    rintro e w1 ⟨rfl, hb1⟩
    have S1 := S0.below hb1
    obtain ⟨v', w2, h1, h2, h3⟩ := app_rs w1 w.heap.size _ 0 _ S1.own 0 0 (by omega) S1.bl.size
    have HA := Lib.hid h1
    have S := S1.add 0 h2 h3
    clear S0 S1 h1 h2 h3 hb1
    go_wp2_with (at_builtin; refine wpList_append_run rfl _ _ _ _ rfl _ _ rfl rfl _ _ HA.out ?_)
    clear HA
    refine (HMK.out _).mono ?_
    rintro e w3 ⟨rfl, rfl⟩
    cases mo with
    | true =>
      have HR3 : Hid (R = (me, mn, ([0] : List Int))) := HR2
      clear HR2
      go_wp2_with fail
      go_ret3
      refine SnI.out (by rw [HR3.out]; exact S) ?_
      rw [HR3.out]
      rfl
    | false =>
      have hq : R = ((oneK kind body ([0] : List Int)).1, 0, (oneK kind body ([0] : List Int)).2) := HR2.out
      unfold oneK at hq
      rw [HCN.out] at hq
      clear HR2
      go_wp2_with fail
      refine (HP.out _).mono ?_
      rintro e w4 ⟨vm, rfl, hb4, hrm⟩
      have hrm0 := hrm
      obtain ⟨ma, mc, rfl, -⟩ := hrm0
      have S4 := (S.below hb4).alloc (.cells #[.string t, .slice ma qs.length mc] 47)
      have hrm2 := hrm.below ((Below.refl _ w4).alloc (Nat.le_refl _) (.cells #[.string t, .slice ma qs.length mc] 47)) (Nat.le_refl _)
      clear S hb4 hrm
      go_wp2_with fail
      refine (HCH.out _ _ _ hrm2 (by simp)).mono ?_
      rintro e w5 ⟨rfl, hb5⟩
      have S5 := S4.below hb5
      clear S4 hb5 hrm2
      cases ctold with
      | false =>
        have HQ : Hid (R = ((twoK body ([0] : List Int)).1, 0, (twoK body ([0] : List Int)).2)) := Lib.hid hq
        clear hq
        go_wp2_with fail
        refine (HSH.out _).mono ?_
        rintro e w8 ⟨rfl, rfl⟩
        have hq : R = ((twoK body (([0] : List Int))).1, 0, (twoK body (([0] : List Int))).2) := HQ.out
        unfold twoK at hq
        rw [HSHN.out] at hq
        clear HQ
        cases sho with
        | true =>
          have HQ : Hid (R = (she, 0, ([0] : List Int))) := Lib.hid hq
          clear hq
          go_wp2_with fail
          go_ret3
          refine SnI.out (by rw [HQ.out]; exact S5) ?_
          rw [HQ.out]
          rfl
        | false =>
          have hq2 : R = ((thrK body (([0] : List Int))).1, 0, (thrK body (([0] : List Int))).2) := hq
          unfold thrK at hq2
          rw [HSCN.out] at hq2
          clear hq
          go_wp2_with fail
          refine (HSC.out _).mono ?_
          rintro e w9 ⟨rfl, hb9⟩
          have S9 := S5.below hb9
          clear S5 hb9
          cases stold with
          | false =>
            have HQ : Hid (R = (0, 0, ([0] : List Int))) := Lib.hid hq2
            clear hq2
            go_wp2_with fail
            go_ret3
            refine SnI.out (by rw [HQ.out]; exact S9) ?_
            rw [HQ.out]
            rfl
          | true =>
            have hla := fun w => HLA.out sname hsz2 w
            obtain ⟨lb, hlb⟩ : ∃ l, labS sname = l := ⟨_, rfl⟩
            simp only [hlb, if_true] at hq2
            rw [show ofS (wantS sname) = lb from hlb] at hla
            obtain ⟨le, lo⟩ := lb
            have HL := Lib.hid hla
            obtain ⟨lo2, hlo2⟩ : ∃ x, (lo && !(decide (le = 1) || decide (le = 2))) = x := ⟨_, rfl⟩
            simp only [hlo2] at hq2
            clear hla hlb
            cases lo2 with
            | true =>
              have HQ : Hid (R = (le, 0, ([0] : List Int))) := Lib.hid hq2
              simp only [Bool.and_eq_true, Bool.not_eq_true', Bool.or_eq_false_iff, decide_eq_false_iff_not] at hlo2
              obtain ⟨rfl, g1, g2⟩ := hlo2
              have g1 : (le != 1) = true := by simpa using g1
              have g2 : (le != 2) = true := by simpa using g2
              clear hq2
              go_wp2_with fail
              refine (HL.out _).mono ?_
              rintro e wa ⟨rfl, hba⟩
              have Sa := S9.below hba
              clear S9 hba
              go_wp2_with fail
              go_ret3
              refine SnI.out (by rw [HQ.out]; exact Sa) ?_
              rw [HQ.out]
              rfl
            | false =>
              have HQ : Hid (R = (0, 0, ([0] : List Int) ++ [1])) := Lib.hid hq2
              clear hq2
              obtain rfl | ⟨rfl, rfl⟩ | ⟨rfl, rfl⟩ : lo = false ∨ (lo = true ∧ le = 1) ∨ (lo = true ∧ le = 2) := by
                cases lo with
                | false => exact .inl rfl
                | true =>
                  by_cases h1 : le = 1
                  · exact .inr (.inl ⟨rfl, h1⟩)
                  · by_cases h2 : le = 2
                    · exact .inr (.inr ⟨rfl, h2⟩)
                    · simp [h1, h2] at hlo2
              all_goals
                clear hlo2
                go_wp2_with fail
                refine (HL.out _).mono ?_
                rintro e wa ⟨rfl, hba⟩
                have Sa := S9.below hba
                obtain ⟨va, wb, h1, h2, h3⟩ := app_rs wa w.heap.size _ _ _ Sa.own 1 0 (by simp) Sa.bl.size
                have HA := Lib.hid h1
                have Sb := Sa.add 1 h2 h3
                clear S9 Sa hba h1 h2 h3
                go_wp2_with (at_builtin; refine wpList_append_run rfl _ _ _ _ rfl _ _ rfl rfl _ _ HA.out ?_)
                go_ret3
                refine SnI.out (by rw [HQ.out]; exact Sb) ?_
                rw [HQ.out]
                rfl
      | true =>
        have hq2 : R = ((if (labS cname).2 then ((labS cname).1, ([0] : List Int)) else twoK body (([0] : List Int) ++ [1])).1, 0, (if (labS cname).2 then ((labS cname).1, ([0] : List Int)) else twoK body (([0] : List Int) ++ [1])).2) := hq
        have hla := fun w => HLA.out cname hcz2 w
        obtain ⟨lb, hlb⟩ : ∃ l, labS cname = l := ⟨_, rfl⟩
        rw [hlb] at hq2
        rw [show ofS (wantS cname) = lb from hlb] at hla
        obtain ⟨le, lo⟩ := lb
        have HL := Lib.hid hla
        cases lo with
        | true =>
          have HQ : Hid (R = (le, 0, ([0] : List Int))) := Lib.hid hq2
          clear hq hq2 hla hlb
          go_wp2_with fail
          refine (HL.out _).mono ?_
          rintro e w6 ⟨rfl, hb6⟩
          have S6 := S5.below hb6
          clear S5 hb6
          go_wp2_with fail
          go_ret3
          refine SnI.out (by rw [HQ.out]; exact S6) ?_
          rw [HQ.out]
          rfl
        | false =>
          have HQ : Hid (R = ((twoK body (([0] : List Int) ++ [1])).1, 0, (twoK body (([0] : List Int) ++ [1])).2)) := Lib.hid hq2
          clear hq hq2 hla hlb
          go_wp2_with fail
          refine (HL.out _).mono ?_
          rintro e w6 ⟨rfl, hb6⟩
          have S6 := S5.below hb6
          obtain ⟨v6, w7, h1, h2, h3⟩ := app_rs w6 w.heap.size _ _ _ S6.own 1 0 (by simp) S6.bl.size
          have HA := Lib.hid h1
          have S5 := S6.add 1 h2 h3
          clear S6 hb6 h1 h2 h3
          go_wp2_with (at_builtin; refine wpList_append_run rfl _ _ _ _ rfl _ _ rfl rfl _ _ HA.out ?_)
          clear HA
          refine (HSH.out _).mono ?_
          rintro e w8 ⟨rfl, rfl⟩
          have hq : R = ((twoK body (([0] : List Int) ++ [1])).1, 0, (twoK body (([0] : List Int) ++ [1])).2) := HQ.out
          unfold twoK at hq
          rw [HSHN.out] at hq
          clear HQ
          cases sho with
          | true =>
            have HQ : Hid (R = (she, 0, ([0] : List Int) ++ [1])) := Lib.hid hq
            clear hq
            go_wp2_with fail
            go_ret3
            refine SnI.out (by rw [HQ.out]; exact S5) ?_
            rw [HQ.out]
            rfl
          | false =>
            have hq2 : R = ((thrK body (([0] : List Int) ++ [1])).1, 0, (thrK body (([0] : List Int) ++ [1])).2) := hq
            unfold thrK at hq2
            rw [HSCN.out] at hq2
            clear hq
            go_wp2_with fail
            refine (HSC.out _).mono ?_
            rintro e w9 ⟨rfl, hb9⟩
            have S9 := S5.below hb9
            clear S5 hb9
            cases stold with
            | false =>
              have HQ : Hid (R = (0, 0, ([0] : List Int) ++ [1])) := Lib.hid hq2
              clear hq2
              go_wp2_with fail
              go_ret3
              refine SnI.out (by rw [HQ.out]; exact S9) ?_
              rw [HQ.out]
              rfl
            | true =>
              have hla := fun w => HLA.out sname hsz2 w
              obtain ⟨lb, hlb⟩ : ∃ l, labS sname = l := ⟨_, rfl⟩
              simp only [hlb, if_true] at hq2
              rw [show ofS (wantS sname) = lb from hlb] at hla
              obtain ⟨le, lo⟩ := lb
              have HL := Lib.hid hla
              obtain ⟨lo2, hlo2⟩ : ∃ x, (lo && !(decide (le = 1) || decide (le = 2))) = x := ⟨_, rfl⟩
              simp only [hlo2] at hq2
              clear hla hlb
              cases lo2 with
              | true =>
                have HQ : Hid (R = (le, 0, ([0] : List Int) ++ [1])) := Lib.hid hq2
                simp only [Bool.and_eq_true, Bool.not_eq_true', Bool.or_eq_false_iff, decide_eq_false_iff_not] at hlo2
                obtain ⟨rfl, g1, g2⟩ := hlo2
                have g1 : (le != 1) = true := by simpa using g1
                have g2 : (le != 2) = true := by simpa using g2
                clear hq2
                go_wp2_with fail
                refine (HL.out _).mono ?_
                rintro e wa ⟨rfl, hba⟩
                have Sa := S9.below hba
                clear S9 hba
                go_wp2_with fail
                go_ret3
                refine SnI.out (by rw [HQ.out]; exact Sa) ?_
                rw [HQ.out]
                rfl
              | false =>
                have HQ : Hid (R = (0, 0, ([0] : List Int) ++ [1] ++ [1])) := Lib.hid hq2
                clear hq2
                obtain rfl | ⟨rfl, rfl⟩ | ⟨rfl, rfl⟩ : lo = false ∨ (lo = true ∧ le = 1) ∨ (lo = true ∧ le = 2) := by
                  cases lo with
                  | false => exact .inl rfl
                  | true =>
                    by_cases h1 : le = 1
                    · exact .inr (.inl ⟨rfl, h1⟩)
                    · by_cases h2 : le = 2
                      · exact .inr (.inr ⟨rfl, h2⟩)
                      · simp [h1, h2] at hlo2
                all_goals
                  clear hlo2
                  go_wp2_with fail
                  refine (HL.out _).mono ?_
                  rintro e wa ⟨rfl, hba⟩
                  have Sa := S9.below hba
                  obtain ⟨va, wb, h1, h2, h3⟩ := app_rs wa w.heap.size _ _ _ Sa.own 1 0 (by simp) Sa.bl.size
                  have HA := Lib.hid h1
                  have Sb := Sa.add 1 h2 h3
                  clear S9 Sa hba h1 h2 h3
                  go_wp2_with (at_builtin; refine wpList_append_run rfl _ _ _ _ rfl _ _ rfl rfl _ _ HA.out ?_)
                  go_ret3
                  refine SnI.out (by rw [HQ.out]; exact Sb) ?_
                  rw [HQ.out]
                  rfl
end Go.Proofs.YthahfoliblgegaaGreatDoor
/- 
  Layer 8: the walks of both Decode and both Encode.
 -/
namespace Go.Proofs.YthahfoliblgegaaGreatDoor
open Go.RowKit
/-- an answer of two whose world is made bigger. -/
def Two2 (w w' : World) (a b : Value) (e : Ending) : Prop := e = .returned (.tuple #[a, b]) ∧ Below w.heap.size w w'
theorem codec_loose (e : Int) (b : ByteArray) (w : World) (hs : b.size ≤ 100000) :
    Calls Tryz.prog 37 #[.int .i8 e, .string b] w fun r w' => Two2 w w' (.string (decP 0 b).1) (.int .i64 (decP 0 b).2) r := by
  have H := Lib.hid (fun w => utf8_Loose b w (by omega))
  go_enter Tryz.func37, Tryz.ntmps37
  go_wp2_with fail
  refine (H.out _).mono ?_
  rintro r w1 ⟨rfl, hb⟩
  go_wp2_with fail
  go_ret2
  exact ⟨rfl, hb⟩
theorem decP_16 (e : Int) (b : ByteArray) (h : e = 1 ∨ e = 2) : decP e b = (textS (dW (decide (e = 2)) 0 (nums b)).1, hdI (dW (decide (e = 2)) 0 (nums b)).2) := by
  unfold decP
  rw [if_neg (by omega), if_pos h]
theorem decP_one (e : Int) (b : ByteArray) (h : isEnc e = true) : decP e b = (decS e b, -1) := by
  have h1 : e = 3 ∨ e = 4 ∨ e = 5 := of_decide_eq_true h
  unfold decP
  rw [if_neg (by omega), if_neg (by omega), if_pos h]
set_option maxRecDepth 100000 in
theorem codec_units (e : Int) (b : ByteArray) (w : World) (hs : b.size ≤ 100000) (he : e = 1 ∨ e = 2) :
    Calls Tryz.prog 38 #[.int .i8 e, .string b] w fun r w' => Two2 w w' (.string (decP e b).1) (.int .i64 (decP e b).2) r := by
  have hu := fun w => utf16_Decode (decide (e = 2)) b w hs
  rw [decP_16 e b he]
  obtain ⟨D, hD⟩ : ∃ D, dW (decide (e = 2)) 0 (nums b) = D := ⟨_, rfl⟩
  rw [hD] at hu ⊢
  obtain ⟨dt, db⟩ := D
  obtain ⟨T, hT⟩ : ∃ T, textS dt = T := ⟨_, rfl⟩
  simp only [hT] at hu ⊢
  have hbig : (e == 2) = decide (e = 2) := by
    rcases he with rfl | rfl <;> rfl
  obtain ⟨g, hg⟩ : ∃ g, decide (e = 2) = g := ⟨_, rfl⟩
  rw [hg] at hu hbig
  have H := Lib.hid hu
  clear hu hD hT hg he
  go_enter Tryz.func38, Tryz.ntmps38
  go_wp2_with fail
  refine (H.out _).mono ?_
  rintro r w1 ⟨vb, rfl, hr, hb⟩
  cases db with
  | nil =>
    obtain ⟨a, c, rfl, -, -⟩ := (hr : Reads w1.heap.size w1 vb ((([] : List Int)).map (Value.int .i64))).open
    go_wp2_with fail
    go_ret2
    exact ⟨rfl, hb⟩
  | cons x r =>
    obtain ⟨hl, a, cap, rfl, hr⟩ := hr
    rcases hr with hr | ⟨bl, off, rfl, hB, hc⟩
    · simp at hr
    · have hc0 := hc 0 (by simp)
      simp only [List.map_cons, List.getElem_cons_zero, Nat.add_zero] at hc0
      have hlen : ((x :: r).map (Value.int .i64)).length = r.length + 1 := by simp
      rw [hlen] at hl ⊢
      obtain ⟨k, hk⟩ : ∃ k, r.length = k := ⟨_, rfl⟩
      rw [hk] at hl ⊢
      clear hc hlen hk
      have hb2 := fun n => below_dn hb n
      go_wp2_with fail
      go_quiet (fail)
      go_wp2_with fail
      go_ret2
      exact ⟨rfl, hb2 _⟩
theorem codec_bytes (e : Int) (b : ByteArray) (w : World) (hs : b.size ≤ 100000) (he : isEnc e = true) :
    Calls Tryz.prog 39 #[.int .i8 e, .string b] w fun r w' => Two2 w w' (.string (decP e b).1) (.int .i64 (decP e b).2) r := by
  rw [decP_one e b he]
  have H := Lib.hid (fun w => single_Decode e b w (by omega))
  clear he
  go_enter Tryz.func39, Tryz.ntmps39
  go_wp2_with fail
  refine (H.out _).mono ?_
  rintro r w1 ⟨rfl, hb⟩
  go_wp2_with fail
  go_ret2
  exact ⟨rfl, hb⟩
set_option maxRecDepth 100000 in
set_option maxHeartbeats 2000000 in
theorem sniff_Decode (e : Int) (b : ByteArray) (w : World) (hs : b.size ≤ 100000) (h8 : -128 ≤ e ∧ e ≤ 127) :
    Calls Tryz.prog 15 #[.int .i8 e, .string b] w fun r w' => Two2 w w' (.string (decP e b).1) (.int .i64 (decP e b).2) r := by
  obtain ⟨h81, h82⟩ := h8
  by_cases h : 0 ≤ e ∧ e < 6
  · obtain rfl | rfl | rfl | rfl | rfl | rfl : e = 0 ∨ e = 1 ∨ e = 2 ∨ e = 3 ∨ e = 4 ∨ e = 5 := by omega
    · have H := Lib.hid (fun w => codec_loose 0 b w hs)
      clear h
      obtain ⟨P, hP⟩ : ∃ P, decP 0 b = P := ⟨_, rfl⟩
      rw [hP] at H ⊢
      clear hP
      go_enter Tryz.func15, Tryz.ntmps15
      go_wp2_with fail
      refine (H.out _).mono ?_
      rintro r w1 ⟨rfl, hb⟩
      have hb2 := ((Below.refl w.heap.size w).alloc (Nat.le_refl _) (.cells #[.func (.func 37) #[] #[], .func (.func 38) #[] #[], .func (.func 38) #[] #[], .func (.func 39) #[] #[], .func (.func 39) #[] #[], .func (.func 39) #[] #[]] 59)).trans (hb.mono (by simp))
      go_wp2_with fail
      go_ret2
      exact ⟨rfl, hb2⟩
    · have H := Lib.hid (fun w => codec_units 1 b w hs (.inl rfl))
      clear h
      obtain ⟨P, hP⟩ : ∃ P, decP 1 b = P := ⟨_, rfl⟩
      rw [hP] at H ⊢
      clear hP
      go_enter Tryz.func15, Tryz.ntmps15
      go_wp2_with fail
      refine (H.out _).mono ?_
      rintro r w1 ⟨rfl, hb⟩
      have hb2 := ((Below.refl w.heap.size w).alloc (Nat.le_refl _) (.cells #[.func (.func 37) #[] #[], .func (.func 38) #[] #[], .func (.func 38) #[] #[], .func (.func 39) #[] #[], .func (.func 39) #[] #[], .func (.func 39) #[] #[]] 59)).trans (hb.mono (by simp))
      go_wp2_with fail
      go_ret2
      exact ⟨rfl, hb2⟩
    · have H := Lib.hid (fun w => codec_units 2 b w hs (.inr rfl))
      clear h
      obtain ⟨P, hP⟩ : ∃ P, decP 2 b = P := ⟨_, rfl⟩
      rw [hP] at H ⊢
      clear hP
      go_enter Tryz.func15, Tryz.ntmps15
      go_wp2_with fail
      refine (H.out _).mono ?_
      rintro r w1 ⟨rfl, hb⟩
      have hb2 := ((Below.refl w.heap.size w).alloc (Nat.le_refl _) (.cells #[.func (.func 37) #[] #[], .func (.func 38) #[] #[], .func (.func 38) #[] #[], .func (.func 39) #[] #[], .func (.func 39) #[] #[], .func (.func 39) #[] #[]] 59)).trans (hb.mono (by simp))
      go_wp2_with fail
      go_ret2
      exact ⟨rfl, hb2⟩
    · have H := Lib.hid (fun w => codec_bytes 3 b w hs rfl)
      clear h
      obtain ⟨P, hP⟩ : ∃ P, decP 3 b = P := ⟨_, rfl⟩
      rw [hP] at H ⊢
      clear hP
      go_enter Tryz.func15, Tryz.ntmps15
      go_wp2_with fail
      refine (H.out _).mono ?_
      rintro r w1 ⟨rfl, hb⟩
      have hb2 := ((Below.refl w.heap.size w).alloc (Nat.le_refl _) (.cells #[.func (.func 37) #[] #[], .func (.func 38) #[] #[], .func (.func 38) #[] #[], .func (.func 39) #[] #[], .func (.func 39) #[] #[], .func (.func 39) #[] #[]] 59)).trans (hb.mono (by simp))
      go_wp2_with fail
      go_ret2
      exact ⟨rfl, hb2⟩
    · have H := Lib.hid (fun w => codec_bytes 4 b w hs rfl)
      clear h
      obtain ⟨P, hP⟩ : ∃ P, decP 4 b = P := ⟨_, rfl⟩
      rw [hP] at H ⊢
      clear hP
      go_enter Tryz.func15, Tryz.ntmps15
      go_wp2_with fail
      refine (H.out _).mono ?_
      rintro r w1 ⟨rfl, hb⟩
      have hb2 := ((Below.refl w.heap.size w).alloc (Nat.le_refl _) (.cells #[.func (.func 37) #[] #[], .func (.func 38) #[] #[], .func (.func 38) #[] #[], .func (.func 39) #[] #[], .func (.func 39) #[] #[], .func (.func 39) #[] #[]] 59)).trans (hb.mono (by simp))
      go_wp2_with fail
      go_ret2
      exact ⟨rfl, hb2⟩
    · have H := Lib.hid (fun w => codec_bytes 5 b w hs rfl)
      clear h
      obtain ⟨P, hP⟩ : ∃ P, decP 5 b = P := ⟨_, rfl⟩
      rw [hP] at H ⊢
      clear hP
      go_enter Tryz.func15, Tryz.ntmps15
      go_wp2_with fail
      refine (H.out _).mono ?_
      rintro r w1 ⟨rfl, hb⟩
      have hb2 := ((Below.refl w.heap.size w).alloc (Nat.le_refl _) (.cells #[.func (.func 37) #[] #[], .func (.func 38) #[] #[], .func (.func 38) #[] #[], .func (.func 39) #[] #[], .func (.func 39) #[] #[], .func (.func 39) #[] #[]] 59)).trans (hb.mono (by simp))
      go_wp2_with fail
      go_ret2
      exact ⟨rfl, hb2⟩
  · have hdec : decP e b = if b.size = 0 then (⟨#[]⟩, -1) else (⟨#[]⟩, 0) := by
      unfold decP isEnc
      rw [if_neg (by omega), if_neg (by omega), if_neg (by simp; omega)]
    rw [hdec]
    clear hdec
    have hb2 := (Below.refl w.heap.size w).alloc (Nat.le_refl _) (.cells #[.func (.func 37) #[] #[], .func (.func 38) #[] #[], .func (.func 38) #[] #[], .func (.func 39) #[] #[], .func (.func 39) #[] #[], .func (.func 39) #[] #[]] 59)
    by_cases hz : b.size = 0
    · rw [if_pos hz]
      have e0 : (b.toList == []) = true := by
        have : b.toList = [] := by rw [ByteArray.toList_eq]; exact List.eq_nil_of_length_eq_zero (by rw [Array.length_toList]; exact hz)
        simpa using this
      clear hz
      rcases Int.lt_or_le e 0 with h0 | h0
      · have d0 := decide_eq_false (show ¬ 0 ≤ e by omega)
        clear h h0
        go_enter Tryz.func15, Tryz.ntmps15
        go_wp2_with fail
        go_ret2
        exact ⟨rfl, hb2⟩
      · have d0 := decide_eq_true (show 0 ≤ e by omega)
        have d1 := decide_eq_false (show ¬ e < 6 by omega)
        clear h h0
        go_enter Tryz.func15, Tryz.ntmps15
        go_wp2_with fail
        go_ret2
        exact ⟨rfl, hb2⟩
    · rw [if_neg hz]
      have e0 : (b.toList == []) = false := by
        have : ¬ b.toList = [] := fun e => hz (by
          rw [ByteArray.toList_eq] at e
          show b.data.size = 0
          rw [← Array.length_toList, e]; rfl)
        simpa using this
      clear hz
      rcases Int.lt_or_le e 0 with h0 | h0
      · have d0 := decide_eq_false (show ¬ 0 ≤ e by omega)
        clear h h0
        go_enter Tryz.func15, Tryz.ntmps15
        go_wp2_with fail
        go_ret2
        exact ⟨rfl, hb2⟩
      · have d0 := decide_eq_true (show 0 ≤ e by omega)
        have d1 := decide_eq_false (show ¬ e < 6 by omega)
        clear h h0
        go_enter Tryz.func15, Tryz.ntmps15
        go_wp2_with fail
        go_ret2
        exact ⟨rfl, hb2⟩
set_option maxRecDepth 100000 in
set_option maxHeartbeats 2000000 in
theorem ref08_Decode (e : Int) (b : ByteArray) (w : World) (hs : b.size ≤ 100000) :
    Calls Tryz.prog 16 #[.int .i8 e, .string b] w fun r w' => Two2 w w' (.string (decP e b).1) (.int .i64 (decP e b).2) r := by
  by_cases h0 : e = 0
  · subst h0
    have H := Lib.hid (fun w => ref02_Loose b w (by omega))
    have hd : decP 0 b = (strOfNums (looseN (nums b)), firstN (nums b)) := rfl
    rw [hd]
    clear hd
    go_enter Tryz.func16, Tryz.ntmps16
    go_wp2_with fail
    refine (H.out _).mono ?_
    rintro r w1 ⟨rfl, hb⟩
    go_wp2_with fail
    go_ret2
    exact ⟨rfl, hb⟩
  · have q0 : (e == 0) = false := by simpa using h0
    by_cases h12 : e = 1 ∨ e = 2
    · have hu := fun w => ref03_Decode (decide (e = 2)) b w hs
      rw [decP_16 e b h12]
      obtain ⟨D, hD⟩ : ∃ D, dW (decide (e = 2)) 0 (nums b) = D := ⟨_, rfl⟩
      rw [hD] at hu ⊢
      obtain ⟨dt, db⟩ := D
      obtain ⟨T, hT⟩ : ∃ T, textS dt = T := ⟨_, rfl⟩
      simp only [hT] at hu ⊢
      clear hD hT
      rcases h12 with rfl | rfl
      · have H := Lib.hid hu
        clear hu h0
        go_enter Tryz.func16, Tryz.ntmps16
        go_wp2_with fail
        refine (H.out _).mono ?_
        rintro r w1 ⟨vb, rfl, hr, hb⟩
        cases db with
        | nil =>
          obtain ⟨a, c, rfl, -, -⟩ := (hr : Reads w1.heap.size w1 vb ((([] : List Int)).map (Value.int .i64))).open
          go_wp2_with fail
          go_ret2
          exact ⟨rfl, hb⟩
        | cons x r =>
          obtain ⟨hl, a, cap, rfl, hr⟩ := hr
          rcases hr with hr | ⟨bl, off, rfl, hB, hc⟩
          · simp at hr
          · have hc0 := hc 0 (by simp)
            simp only [List.map_cons, List.getElem_cons_zero, Nat.add_zero] at hc0
            have hlen : ((x :: r).map (Value.int .i64)).length = r.length + 1 := by simp
            rw [hlen] at hl ⊢
            obtain ⟨k, hk⟩ : ∃ k, r.length = k := ⟨_, rfl⟩
            rw [hk] at hl ⊢
            clear hc hlen hk
            have hb2 := fun n => below_dn hb n
            go_wp2_with fail
            go_quiet (fail)
            go_wp2_with fail
            go_ret2
            exact ⟨rfl, hb2 _⟩
      · have H := Lib.hid hu
        clear hu h0
        go_enter Tryz.func16, Tryz.ntmps16
        go_wp2_with fail
        refine (H.out _).mono ?_
        rintro r w1 ⟨vb, rfl, hr, hb⟩
        cases db with
        | nil =>
          obtain ⟨a, c, rfl, -, -⟩ := (hr : Reads w1.heap.size w1 vb ((([] : List Int)).map (Value.int .i64))).open
          go_wp2_with fail
          go_ret2
          exact ⟨rfl, hb⟩
        | cons x r =>
          obtain ⟨hl, a, cap, rfl, hr⟩ := hr
          rcases hr with hr | ⟨bl, off, rfl, hB, hc⟩
          · simp at hr
          · have hc0 := hc 0 (by simp)
            simp only [List.map_cons, List.getElem_cons_zero, Nat.add_zero] at hc0
            have hlen : ((x :: r).map (Value.int .i64)).length = r.length + 1 := by simp
            rw [hlen] at hl ⊢
            obtain ⟨k, hk⟩ : ∃ k, r.length = k := ⟨_, rfl⟩
            rw [hk] at hl ⊢
            clear hc hlen hk
            have hb2 := fun n => below_dn hb n
            go_wp2_with fail
            go_quiet (fail)
            go_wp2_with fail
            go_ret2
            exact ⟨rfl, hb2 _⟩
    · have q1 : (e == 1) = false := by simpa using fun x => h12 (.inl x)
      have q2 : (e == 2) = false := by simpa using fun x => h12 (.inr x)
      have hd := fun w => ref04_Decode e b w (by omega)
      cases he : isEnc e with
      | true =>
        rw [decP_one e b he]
        have hc : decC e = 0 := by unfold decC; rw [he]; rfl
        rw [hc] at hd
        have H := Lib.hid hd
        clear hd hc he h0 h12
        go_enter Tryz.func16, Tryz.ntmps16
        go_wp2_with fail
        refine (H.out _).mono ?_
        rintro r w1 ⟨rfl, hb⟩
        go_wp2_with fail
        go_ret2
        exact ⟨rfl, hb⟩
      | false =>
        have hdec : decP e b = if b.size = 0 then (⟨#[]⟩, -1) else (⟨#[]⟩, 0) := by
          unfold decP
          rw [if_neg h0, if_neg h12, he]
          rfl
        rw [hdec]
        have hc : decC e = 2 := by unfold decC; rw [he]; rfl
        have hs2 : decS e b = ⟨#[]⟩ := by unfold decS; rw [he]; rfl
        rw [hc, hs2] at hd
        have H := Lib.hid hd
        clear hd hc he h0 h12 hdec hs2
        by_cases hz : b.size = 0
        · rw [if_pos hz]
          have d0 := decide_eq_false (show ¬ (0 : Int) < (b.size : Int) by omega)
          have d1 := decide_eq_false (show ¬ 0 < b.size by omega)
          clear hz
          go_enter Tryz.func16, Tryz.ntmps16
          go_wp2_with fail
          refine (H.out _).mono ?_
          rintro r w1 ⟨rfl, hb⟩
          go_wp2_with fail
          go_ret2
          exact ⟨rfl, hb⟩
        · rw [if_neg hz]
          have d0 := decide_eq_true (show (0 : Int) < (b.size : Int) by omega)
          have d1 := decide_eq_true (show 0 < b.size by omega)
          clear hz
          go_enter Tryz.func16, Tryz.ntmps16
          go_wp2_with fail
          refine (H.out _).mono ?_
          rintro r w1 ⟨rfl, hb⟩
          go_wp2_with fail
          go_ret2
          exact ⟨rfl, hb⟩
end Go.Proofs.YthahfoliblgegaaGreatDoor
