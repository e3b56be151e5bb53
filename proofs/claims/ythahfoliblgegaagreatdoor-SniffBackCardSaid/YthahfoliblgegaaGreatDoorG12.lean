/-
  Parts DeJ DeK SnA SnP SnB SnC of this seat's texts, in one file: contracts of functions that the law reaches, and the plain laws behind them. No condition.
-/
import Derived.Test.YthahfoliblgegaaGreatDoorG11
import Derived.Deep.CutBlock
import Derived.Deep.DeepCutAuto
import Derived.Shelf.Strings.SlTrimAscii
import Derived.Test.YthahfoliblgegaaGreatDoorG7
import Derived.Test.YthahfoliblgegaaGreatDoorG1
import Derived.Test.YthahfoliblgegaaGreatDoorG9
import Derived.Test.YthahfoliblgegaaGreatDoorG10
import Derived.Test.YthahfoliblgegaaGreatDoorG5
import Derived.Test.YthahfoliblgegaaGreatDoorG6
import Derived.Test.YthahfoliblgegaaGreatDoorG4
import Derived.Test.YthahfoliblgegaaGreatDoorG8
import Derived.Deep.RegionHeld3
/- 
  Layer 7: the document's part.
 -/
namespace Go.Proofs.YthahfoliblgegaaGreatDoor
open Go.RowKit
theorem dropWhile_lenD (P : Int → Bool) : ∀ l : List Int, l.dropWhile P = l.drop (l.takeWhile P).length
  | [] => rfl
  | c :: t => by
    rw [List.dropWhile_cons, List.takeWhile_cons]
    split
    · rw [List.length_cons, List.drop_succ_cons, dropWhile_lenD P t]
    · rfl
theorem take_of_len (P : Int → Bool) : ∀ l : List Int, l.take (l.takeWhile P).length = l.takeWhile P
  | [] => rfl
  | c :: t => by
    rw [List.takeWhile_cons]
    split
    · rw [List.length_cons, List.take_succ_cons, take_of_len P t]
    · rfl
/-- a part at a place, by places. -/
theorem partD_at (L : List Int) (a k t q v : Nat) (hk : a + ((L.drop a).takeWhile whN).length = k) (ht : k + ((L.drop k).takeWhile smN).length = t) (hq : t + ((L.drop t).takeWhile whN).length = q) (hv : q + 1 + ((L.drop (q + 1)).takeWhile whN).length = v) :
    partD (L.drop a) = if k = a then none else if t = k then none else if L[q]? = some 61 then (valD (L.drop v)).map fun p => (((L.drop k).take (t - k), p.1), p.2) else none := by
  have e1 : (L.drop a).dropWhile whN = L.drop k := by rw [dropWhile_lenD, List.drop_drop, hk]
  have e2 : (L.drop k).dropWhile smN = L.drop t := by rw [dropWhile_lenD, List.drop_drop, ht]
  have e3 : (L.drop t).dropWhile whN = L.drop q := by rw [dropWhile_lenD, List.drop_drop, hq]
  have e4 : (L.drop (q + 1)).dropWhile whN = L.drop v := by rw [dropWhile_lenD, List.drop_drop, hv]
  have e5 : (L.drop k).take (t - k) = (L.drop k).takeWhile smN := by rw [show t - k = ((L.drop k).takeWhile smN).length by omega, take_of_len]
  unfold partD
  rw [e1, e2, e3, ← e5]
  by_cases h1 : k = a
  · rw [if_pos h1, if_pos (List.eq_nil_of_length_eq_zero (by omega))]
  · rw [if_neg h1, if_neg (fun e => by rw [e] at hk; simp at hk; omega)]
    by_cases h2 : t = k
    · rw [if_pos h2, if_pos (by rw [h2]; simp)]
    · rw [if_neg h2, if_neg (fun e => by rw [e5] at e; rw [e] at ht; simp at ht; omega)]
      by_cases h3 : L[q]? = some 61
      · have hlt : q < L.length := (List.getElem?_eq_some_iff.1 h3).1
        have hd : L.drop q = 61 :: L.drop (q + 1) := by
          rw [List.drop_eq_getElem_cons hlt]
          rw [(List.getElem?_eq_some_iff.1 h3).2]
        rw [if_pos h3, hd, ← e4]
        rfl
      · rw [if_neg h3]
        split
        · rename_i u e
          exfalso
          apply h3
          have := congrArg List.head? e
          rw [List.head?_drop] at this
          simpa using this
        · rfl
/-- what part tells. -/
def prtPost (s : ByteArray) (a : Nat) (w : World) (e : Ending) (w' : World) : Prop :=
  ∃ (x y : ByteArray) (to_ : Nat) (ok : Bool), e = .returned (.tuple #[.agg #[.string x, .string y], .int .i64 to_, .bool ok]) ∧ ok = (partD ((nums s).drop a)).isSome ∧ to_ ≤ s.size ∧ (ok = false → to_ = a) ∧ Below w.heap.size w w' ∧
    ∀ p, partD ((nums s).drop a) = some p → x = strOfNums p.1.1 ∧ y = strOfNums p.1.2 ∧ (nums s).drop to_ = p.2 ∧ ok = true
theorem prtPost.no {s : ByteArray} {a : Nat} {w W : World} (h : partD ((nums s).drop a) = none) (ha : a ≤ s.size) (hb : Below w.heap.size w W) : prtPost s a w (.returned (.tuple #[.agg #[.string ⟨#[]⟩, .string ⟨#[]⟩], .int .i64 a, .bool false])) W :=
  ⟨⟨#[]⟩, ⟨#[]⟩, a, false, rfl, by rw [h]; rfl, ha, fun _ => rfl, hb, fun p hp => by rw [h] at hp; cases hp⟩
set_option maxHeartbeats 1000000 in
theorem ref07_part (s : ByteArray) (a : Nat) (w : World) (hs : s.size ≤ 1000000) (ha : a ≤ s.size) : Calls Tryz.prog 111 #[.string s, .int .i64 a] w fun e w' => prtPost s a w e w' := by
  obtain ⟨k, hk⟩ : ∃ k, a + (((nums s).drop a).takeWhile whN).length = k := ⟨_, rfl⟩
  obtain ⟨t, ht⟩ : ∃ j, k + (((nums s).drop k).takeWhile smN).length = j := ⟨_, rfl⟩
  obtain ⟨q, hq⟩ : ∃ k, t + (((nums s).drop t).takeWhile whN).length = k := ⟨_, rfl⟩
  obtain ⟨v, hv⟩ : ∃ k, q + 1 + (((nums s).drop (q + 1)).takeWhile whN).length = k := ⟨_, rfl⟩
  have hlen : ∀ (P : Int → Bool) (i : Nat), (((nums s).drop i).takeWhile P).length ≤ s.size - i := fun P i => by
    have := (List.takeWhile_prefix P (l := (nums s).drop i)).length_le
    rw [List.length_drop, nums_length] at this
    exact this
  have lk : k ≤ s.size := by have := hlen whN a; omega
  have lt : t ≤ s.size := by have := hlen smN k; omega
  have lq : q ≤ s.size := by have := hlen whN t; omega
  have hpd := partD_at (nums s) a k t q v hk ht hq hv
  have B1 := Lib.hid (fun u => by have h := ref07_blank s a u (by omega) ha; rw [hk] at h; exact h)
  have B2 := Lib.hid (fun u => by have h := ref07_blank s t u (by omega) lt; rw [hq] at h; exact h)
  have HT := Lib.hid ht
  have hb0 := (Below.refl w.heap.size w).alloc (Nat.le_refl _) (.cells #[.string ⟨#[]⟩, .string ⟨#[]⟩] 88)
  have bk := BlkAt.new w #[.string ⟨#[]⟩, .string ⟨#[]⟩] 88
  obtain ⟨W, hW⟩ : ∃ x, w.alloc (.cells #[.string ⟨#[]⟩, .string ⟨#[]⟩] 88) = x := ⟨_, rfl⟩
  rw [hW] at hb0 bk
  clear hk ht hq
  go_enter Tryz.func111, Tryz.ntmps111
  go_wp2_with fail
  refine (B1.out _).mono ?_
  rintro e w' ⟨rfl, rfl⟩
  go_upto_block 0 with fail
  go_cut [8] (fun x wx => x = .int .i64 t ∧ W = wx)
  case first =>
    go_wp2_with fail
    go_loop [8] (fun i => ∃ j : Nat, i = .int .i64 j ∧ j ≤ s.size ∧ Hid (j + (((nums s).drop j).takeWhile smN).length = t)) (fun i => s.size - (intOf i).toNat)
    case atStart => exact ⟨k, rfl, lk, HT⟩
    case round =>
      obtain ⟨j, rfl, hj, HJ⟩ := hrel
      by_cases hlt : j < s.size
      · obtain ⟨c, hc⟩ : ∃ c : Int, (s[j].toNat : Int) = c := ⟨_, rfl⟩
        have hix := index_str s j hlt c j hc rfl
        have hdr := nums_drop s j hlt
        rw [hc] at hdr
        by_cases hsm : smN c = true
        · have HJ2 := Lib.hid (show (j + 1) + (((nums s).drop (j + 1)).takeWhile smN).length = t by
            have := HJ.out
            rw [hdr, List.takeWhile_cons, if_pos hsm, List.length_cons] at this
            omega)
          have hsm2 : 97 ≤ c ∧ c ≤ 122 := by unfold smN at hsm; exact of_decide_eq_true hsm
          obtain ⟨h1, h2⟩ := hsm2
          clear hsm hc hdr
          go_wp2_with fail
          exact ⟨⟨j + 1, by go_num, by omega, HJ2⟩, by simp [intOf]; omega⟩
        · have hjt := Lib.hid (show j = t by
            have := HJ.out
            rw [hdr, List.takeWhile_cons, if_neg hsm, List.length_nil] at this
            omega)
          have hsm2 : c < 97 ∨ (97 ≤ c ∧ 122 < c) := by
            unfold smN at hsm
            have : ¬ (97 ≤ c ∧ c ≤ 122) := fun h => hsm (decide_eq_true h)
            omega
          clear hsm hc hdr
          rcases hsm2 with h1 | ⟨h1, h2⟩
          · have h3 : decide (97 ≤ c) = false := decide_eq_false (by omega)
            go_wp2_with fail
            go_meet
            exact ⟨by rw [hjt.out], rfl⟩
          · have h3 : decide (c ≤ 122) = false := decide_eq_false (by omega)
            go_wp2_with fail
            go_meet
            exact ⟨by rw [hjt.out], rfl⟩
      · have hjt := Lib.hid (show j = t by
          have := HJ.out
          rw [nums_drop_end s j (by omega)] at this
          simpa using this)
        go_wp2_with fail
        go_meet
        exact ⟨by rw [hjt.out], rfl⟩
  case rest =>
    obtain ⟨rfl, rfl⟩ := hcut
    have c0 := bk.cell 0 rfl
    have c1 := bk.cell 1 rfl
    have f0 := bk.free 0
    have f1 := bk.free 1
    have hbx := (hb0.setCell (p := ⟨w.heap.size, 0, none⟩) (Nat.le_refl _) (.string ⟨#[]⟩)).setCell (p := ⟨w.heap.size, 1, none⟩) (Nat.le_refl _) (.string ⟨#[]⟩)
    go_wp2_with fail
    refine (B2.out _).mono ?_
    rintro e w' ⟨rfl, rfl⟩
    by_cases hka : k = a
    · have HN := Lib.hid (show partD ((nums s).drop a) = none by rw [hpd, if_pos hka])
      subst hka
      clear hpd
      go_wp2_with fail
      refine bodyPost_ret (results_cell3 rfl _ _ _ _ _ rfl ((bk.set 0 _).set 1 _) Tryz.underlying88 rfl (by kernel_rfl)) rfl ?_
      exact prtPost.no HN.out ha hbx
    rw [if_neg hka] at hpd
    have hka' : ((k : Int) == (a : Int)) = false := by simpa using fun e : (k : Int) = a => hka (by omega)
    by_cases htk : t = k
    · have HN := Lib.hid (show partD ((nums s).drop a) = none by rw [hpd, if_pos htk])
      subst htk
      clear hpd hka
      go_wp2_with fail
      refine bodyPost_ret (results_cell3 rfl _ _ _ _ _ rfl ((bk.set 0 _).set 1 _) Tryz.underlying88 rfl (by kernel_rfl)) rfl ?_
      exact prtPost.no HN.out ha hbx
    rw [if_neg htk] at hpd
    have htk' : ((t : Int) == (k : Int)) = false := by simpa using fun e : (t : Int) = k => htk (by omega)
    clear hka htk
    by_cases hqs : q < s.size
    rotate_left
    · have HN := Lib.hid (show partD ((nums s).drop a) = none by
        rw [hpd, if_neg]
        rw [List.getElem?_eq_none (by rw [nums_length]; omega)]
        simp)
      clear hpd
      go_wp2_with fail
      refine bodyPost_ret (results_cell3 rfl _ _ _ _ _ rfl ((bk.set 0 _).set 1 _) Tryz.underlying88 rfl (by kernel_rfl)) rfl ?_
      exact prtPost.no HN.out ha hbx
    obtain ⟨c, hc⟩ : ∃ c : Int, (s[q].toNat : Int) = c := ⟨_, rfl⟩
    have hix := index_str s q hqs c q hc rfl
    have hLq : (nums s)[q]? = some c := by rw [List.getElem?_eq_getElem (by rw [nums_length]; exact hqs), nums_at s q hqs, hc]
    rw [hLq] at hpd
    by_cases h61 : c = 61
    rotate_left
    · have HN := Lib.hid (show partD ((nums s).drop a) = none by rw [hpd, if_neg (by simpa using h61)])
      have h61' : (c != 61) = true := by simpa using h61
      clear hpd hLq hc h61
      go_wp2_with fail
      refine bodyPost_ret (results_cell3 rfl _ _ _ _ _ rfl ((bk.set 0 _).set 1 _) Tryz.underlying88 rfl (by kernel_rfl)) rfl ?_
      exact prtPost.no HN.out ha hbx
    subst h61
    rw [if_pos rfl] at hpd
    have HPD := Lib.hid hpd
    have lv : v ≤ s.size := by have := hlen whN (q + 1); omega
    have B3 := Lib.hid (fun u => by have h := ref07_blank s (q + 1) u (by omega) (by omega); rw [hv, show ((q + 1 : Nat) : Int) = (q : Int) + 1 from rfl] at h; exact h)
    clear hpd hLq hc hv
    go_wp2_with fail
    refine (B3.out _).mono ?_
    rintro e w' ⟨rfl, rfl⟩
    by_cases hvs : v < s.size
    rotate_left
    · have HN := Lib.hid (show partD ((nums s).drop a) = none by rw [HPD.out, nums_drop_end s v (by omega)]; rfl)
      go_wp2_with fail
      refine bodyPost_ret (results_cell3 rfl _ _ _ _ _ rfl ((bk.set 0 _).set 1 _) Tryz.underlying88 rfl (by kernel_rfl)) rfl ?_
      exact prtPost.no HN.out ha hbx
    obtain ⟨d, hd⟩ : ∃ c : Int, (s[v].toNat : Int) = c := ⟨_, rfl⟩
    have hixv := index_str s v hvs d v hd rfl
    have hdv := nums_drop s v hvs
    rw [hd] at hdv
    by_cases hqt : d = 34 ∨ d = 39
    rotate_left
    · have HN := Lib.hid (show partD ((nums s).drop a) = none by rw [HPD.out, hdv, valD, if_neg hqt]; rfl)
      have c34 : (d != 34) = true := by simpa using fun e => hqt (.inl e)
      have c39 : (d != 39) = true := by simpa using fun e => hqt (.inr e)
      clear hd hdv hqt
      go_wp2_with fail
      refine bodyPost_ret (results_cell3 rfl _ _ _ _ _ rfl ((bk.set 0 _).set 1 _) Tryz.underlying88 rfl (by kernel_rfl)) rfl ?_
      exact prtPost.no HN.out ha hbx
    have HV := Lib.hid (show partD ((nums s).drop a) = (posN d ((nums s).drop (v + 1))).map fun i => ((((nums s).drop k).take (t - k), ((nums s).drop (v + 1)).take i), (nums s).drop (v + 1 + (i + 1))) by
      rw [HPD.out, hdv, valD, if_pos hqt]
      cases posN d ((nums s).drop (v + 1)) with
      | none => rfl
      | some i => simp only [Option.map_some, List.drop_drop])
    have hqq : (d != 34) = false ∨ ((d != 34) = true ∧ (d != 39) = false) := by
      by_cases e : d = 34
      · exact .inl (by simpa using e)
      · exact .inr ⟨by simpa using e, by simpa using hqt.resolve_left e⟩
    clear hdv hqt
    have hkt : k ≤ t := by have := HT.out; omega
    have hkti : (k : Int) ≤ (t : Int) := by omega
    have ltt : (t : Int) ≤ (s.size : Int) := by omega
    rcases hqq with q34 | ⟨q34, q39⟩
    all_goals
      go_wp2_with fail
      go_loopw [11] (fun i wr => ∃ j n : Nat, i = .int .i64 j ∧ v + 1 ≤ j ∧ j ≤ s.size ∧ Hid (posN d ((nums s).drop (v + 1)) = (posN d ((nums s).drop j)).map (· + (j - (v + 1)))) ∧ wr = W.drewN n) (fun i _ => s.size - (intOf i).toNat)
      case atStart => exact ⟨v + 1, 0, rfl, by omega, by omega, Lib.hid (by simp), rfl⟩
      case round =>
        obtain ⟨j, n, rfl, hvj, hj, HJ, rfl⟩ := hrel
        by_cases hlt : j < s.size
        · obtain ⟨e, he⟩ : ∃ c : Int, (s[j].toNat : Int) = c := ⟨_, rfl⟩
          have hixj := index_str s j hlt e j he rfl
          have hdr := nums_drop s j hlt
          rw [he] at hdr
          by_cases hed : e = d
          · subst hed
            have HE := Lib.hid (show partD ((nums s).drop a) = some ((((nums s).drop k).take (t - k), ((nums s).drop (v + 1)).take (j - (v + 1))), (nums s).drop (j + 1)) by
              rw [HV.out, HJ.out, hdr, posN, if_pos rfl]
              simp only [Option.map_some, Nat.zero_add]
              rw [show v + 1 + (j - (v + 1) + 1) = j + 1 by omega])
            have X1 := Lib.hid (show s.extract k t = strOfNums (((nums s).drop k).take (t - k)) from ext_strD s k t)
            have X2 := Lib.hid (show s.extract (v + 1) j = strOfNums (((nums s).drop (v + 1)).take (j - (v + 1))) from ext_strD s (v + 1) j)
            have hvi : (v : Int) + 1 ≤ (j : Int) := by omega
            have hji : (j : Int) ≤ (s.size : Int) := by omega
            have hji2 : (j : Int) < (s.size : Int) := by omega
            have hvi2 : (v : Int) < (s.size : Int) := by omega
            clear hdr he hd
            go_wp2_with fail
            go_quiet (fail)
            have bkn := bk.drewN (n + nq)
            have c0 := bkn.cell 0 rfl
            have c1 := bkn.cell 1 rfl
            have f0 := bkn.free 0
            have f1 := bkn.free 1
            go_wp2
            go_region
            have bkm := bk.drewN (n + nq + 1)
            go_wp2_with fail
            refine bodyPost_ret (results_cell3 rfl _ _ _ _ _ rfl ((bkm.set 0 _).set 1 _) Tryz.underlying88 rfl (by kernel_rfl)) rfl ?_
            exact ⟨_, _, j + 1, true, rfl, by rw [HE.out]; rfl, by omega, (fun h => by cases h), ((below_dn hb0 (n + nq + 1)).setCell (p := ⟨w.heap.size, 0, none⟩) (Nat.le_refl _) _).setCell (p := ⟨w.heap.size, 1, none⟩) (Nat.le_refl _) _,
              fun p hp => by rw [HE.out] at hp; cases hp; exact ⟨X1.out, X2.out, rfl, rfl⟩⟩
          · have HJ2 := Lib.hid (show posN d ((nums s).drop (v + 1)) = (posN d ((nums s).drop (j + 1))).map (· + (j + 1 - (v + 1))) by
              rw [HJ.out, hdr, posN, if_neg hed, Option.map_map]
              congr 1
              funext i
              simp only [Function.comp]
              omega)
            have hed' : (e == d) = false := by simpa using hed
            have hji2 : (j : Int) < (s.size : Int) := by omega
            have hvi2 : (v : Int) < (s.size : Int) := by omega
            clear hdr he hed hd
            go_wp2_with fail
            go_quiet (fail)
            go_wp2
            exact ⟨⟨j + 1, n + nq, by go_num, by omega, by omega, HJ2, by simp [World.drewN]⟩, by simp [intOf]; omega⟩
        · have HN := Lib.hid (show partD ((nums s).drop a) = none by rw [HV.out, HJ.out, nums_drop_end s j (by omega)]; rfl)
          have bkn := bk.drewN n
          have c0 := bkn.cell 0 rfl
          have c1 := bkn.cell 1 rfl
          have f0 := bkn.free 0
          have f1 := bkn.free 1
          go_wp2_with fail
          refine bodyPost_ret (results_cell3 rfl _ _ _ _ _ rfl ((bkn.set 0 _).set 1 _) Tryz.underlying88 rfl (by kernel_rfl)) rfl ?_
          exact prtPost.no HN.out ha (((below_dn hb0 n).setCell (p := ⟨w.heap.size, 0, none⟩) (Nat.le_refl _) _).setCell (p := ⟨w.heap.size, 1, none⟩) (Nat.le_refl _) _)
end Go.Proofs.YthahfoliblgegaaGreatDoor
/- 
  Layer 7: the document's Parts, Scan, Same.
 -/
namespace Go.Proofs.YthahfoliblgegaaGreatDoor
open Go.RowKit
theorem addr_zero (g j : Nat) : (⟨g, 0, none⟩ : Addr).add j = ⟨g, j, none⟩ := by
  simp only [Addr.add]
  split
  · rename_i h; subst h; rfl
  · simp
theorem dcC_at : ∀ (zs : List (List Int × List Int)) (k : Nat) (h : k < zs.length), (dcC zs)[k * 2]? = some (.string (strOfNums zs[k].1)) ∧ (dcC zs)[k * 2 + 1]? = some (.string (strOfNums zs[k].2))
  | [], _, h => by simp at h
  | z :: r, 0, _ => ⟨rfl, rfl⟩
  | z :: r, k + 1, h => by
    obtain ⟨h1, h2⟩ := dcC_at r k (by simpa using h)
    have e : dcC (z :: r) = Value.string (strOfNums z.1) :: Value.string (strOfNums z.2) :: dcC r := rfl
    rw [e, show (k + 1) * 2 = k * 2 + 1 + 1 by omega]
    simp only [List.getElem?_cons_succ, List.getElem_cons_succ]
    exact ⟨h1, h2⟩
theorem own_form {w : World} {base : Nat} {e : TypeId} {size : Nat} {v : Value} {n : Nat} {xs : List Value} (h : w.ownsRow base e size v n xs) : ∃ a c, v = .slice a n c ∧ (0 < n → ∃ g, a = some ⟨g, 0, none⟩ ∧ ∀ j u, xs[j]? = some u → w.cell? ⟨g, j, none⟩ = some u) := by
  rcases h.2 with ⟨hv, h0⟩ | ⟨g, cap, cur, hv, _⟩
  · exact ⟨_, _, by rw [hv, h0], fun h1 => by omega⟩
  · exact ⟨_, _, hv, fun _ => ⟨g, rfl, fun j u hj => by rw [← addr_zero]; exact h.cells (g := g) (by rw [hv]; rfl) j u hj⟩⟩
theorem insV_of (l : List Int) (hb : isBs l) : nums (insV l).1 = (match insB (l.take 200) with | some x => x | none => []) ∧ partsD l = if (insV l).2 then parT (nums (insV l).1) else [] := by
  unfold insV partsD partsB
  cases e : insB (l.take 200) with
  | none => exact ⟨rfl, rfl⟩
  | some x =>
    have hx : isBs x := by
      unfold insB at e
      split at e
      · cases e2 : endP ((l.take 200).drop 5) with
        | none => rw [e2] at e; cases e
        | some n =>
          rw [e2] at e
          cases e
          exact isBs_takeN (isBs_dropN (isBs_takeN hb _) _) _
      · cases e
    have hn : nums (strOfNums x) = x := nums_strOfNums x hx
    exact ⟨hn, by show parD (x.length + 1) x = parT (nums (strOfNums x)); rw [hn]; rfl⟩
theorem insV_len (s : ByteArray) : (insV (nums s)).1.size ≤ s.size := by
  have h := (insV_of (nums s) (nums_isBs s)).1
  rw [← nums_length, h]
  cases e : insB ((nums s).take 200) with
  | none => simp
  | some x =>
    unfold insB at e
    split at e
    · cases e2 : endP (((nums s).take 200).drop 5) with
      | none => rw [e2] at e; cases e
      | some n =>
        rw [e2] at e
        cases e
        show (List.take n (List.drop 5 (List.take 200 (nums s)))).length ≤ s.size
        rw [List.length_take, List.length_drop, List.length_take, nums_length]
        omega
    · cases e
theorem partsD_len (s : ByteArray) : (partsD (nums s)).length ≤ s.size := by
  have hil := insV_len s
  rw [(insV_of (nums s) (nums_isBs s)).2]
  split
  · have := parT_len _ (nums (insV (nums s)).1) (Nat.le_refl _)
    rw [nums_length] at this
    omega
  · exact Nat.zero_le _
set_option maxHeartbeats 1000000 in
theorem ref07_Parts (s : ByteArray) (hs : s.size ≤ 1000000) (w : World) :
    Calls Tryz.prog 67 #[.string s] w fun e w' => ∃ v, e = .returned v ∧
      w'.ownsRow w.heap.size 88 2 v (partsD (nums s)).length (dcC (partsD (nums s))) ∧ Below w.heap.size w w' := by
  have hiv := (insV_of (nums s) (nums_isBs s)).2
  have hil := insV_len s
  have HI := Lib.hid (ref07_inside s w hs)
  obtain ⟨T, hT⟩ : ∃ T, (insV (nums s)).1 = T := ⟨_, rfl⟩
  obtain ⟨ok, hok⟩ : ∃ T, (insV (nums s)).2 = T := ⟨_, rfl⟩
  rw [hT, hok] at HI hiv
  rw [hT] at hil
  have HP := Lib.hid (fun (k : Nat) (hk : k ≤ T.size) u => ref07_part T k u (by omega) hk)
  have hN := partsD_len s
  have hIV := Lib.hid hiv
  clear hT hok hiv
  go_enter Tryz.func67, Tryz.ntmps67
  go_wp2_with fail
  refine HI.out.mono ?_
  rintro e w' ⟨rfl, rfl⟩
  go_wp2_with fail
  go_loopw [4, 5, 6] (fun o v i wr => ∃ (k : Nat) (done : List (List Int × List Int)) (o2 : Bool), o = .bool o2 ∧ i = .int .i64 k ∧ k ≤ T.size ∧ done.length ≤ s.size ∧ wr.ownsRow w.heap.size 88 2 v done.length (dcC done) ∧ Below w.heap.size w wr ∧
    Hid (partsD (nums s) = if o2 then done ++ parT ((nums T).drop k) else done)) (fun o _ i _ => 2 * (T.size - (intOf i).toNat) + (match o with | .bool true => 1 | _ => 0))
  case atStart => exact ⟨0, [], ok, rfl, rfl, by omega, by simp, World.ownsRow_nil _ _ _ _, Below.refl _ _, Lib.hid (by rw [hIV.out]; cases ok <;> simp)⟩
  case round =>
    obtain ⟨k, done, o2, rfl, rfl, hk, hdl, hrow, hb, HQ⟩ := hrel
    cases o2 with
    | false =>
      have HE := Lib.hid (show partsD (nums s) = done by rw [HQ.out]; rfl)
      go_wp2_with fail
      go_ret
      exact ⟨_, rfl, by rw [HE.out]; exact hrow, hb⟩
    | true =>
      have HE := Lib.hid (show partsD (nums s) = done ++ parT ((nums T).drop k) by rw [HQ.out]; rfl)
      have HPk := Lib.hid (HP.out k hk)
      go_wp2_with fail
      refine (HPk.out _).mono ?_
      rintro e w2 ⟨x, y, j, ok2, rfl, hok2, hj, hjk, hb2, hp2⟩
      have hb2w := bt hb hb2
      have hr2 := own_below hrow hb2 (Nat.le_refl _)
      have hbA := (Below.refl w2.heap.size w2).alloc (Nat.le_refl _) (.cells #[.string x, .string y] 88)
      have hr3 := own_below hr2 hbA (Nat.le_refl _)
      have bk := BlkAt.new w2 #[.string x, .string y] 88
      have s2 : (w2.alloc (.cells #[.string x, .string y] 88)).heap.size = w2.heap.size + 1 := World.size_alloc _ _
      have hb3w := bt hb2w hbA
      obtain ⟨w3, hw3⟩ : ∃ a, w2.alloc (.cells #[.string x, .string y] 88) = a := ⟨_, rfl⟩
      rw [hw3] at hr3 bk s2 hb3w
      have c0 := bk.cell 0 rfl
      have c1 := bk.cell 1 rfl
      cases hp : partD ((nums T).drop k) with
      | none =>
        rw [hp] at hok2
        have hok3 : ok2 = false := hok2
        subst hok3
        obtain rfl := hjk rfl
        have HE2 := Lib.hid (show partsD (nums s) = if false then done ++ parT ((nums T).drop j) else done by rw [HE.out, parT_none hp]; simp)
        clear hok2 hp2 hp
        go_wp2_with fail
        exact ⟨⟨_, done, false, rfl, rfl, hj, hdl, hr3, hb3w, HE2⟩, by simp [intOf]⟩
      | some p =>
        rw [hp] at hok2
        have hok3 : ok2 = true := hok2
        subst hok3
        obtain ⟨h1, h2, h3, _⟩ := hp2 p hp
        have hpe : partsD (nums s) = (done ++ [p.1]) ++ parT ((nums T).drop j) := by rw [HE.out, parT_some hp, h3]; simp
        have hdl2 : done.length + 1 ≤ s.size := by
          have := congrArg List.length hpe
          rw [List.length_append, List.length_append, List.length_singleton] at this
          omega
        have HE2 := Lib.hid (show partsD (nums s) = if true then (done ++ [p.1]) ++ parT ((nums T).drop j) else done ++ [p.1] by rw [hpe]; rfl)
        have hlt := partD_lt hp
        rw [← h3, List.length_drop, List.length_drop, nums_length] at hlt
        obtain ⟨v', w', hrun, hro, hbo, _, _⟩ := app_two w3 w.heap.size _ done.length _ hr3 x y (by omega) hb3w.size
        rw [s2] at hrun
        have HRUN := Lib.hid hrun
        have hro2 : w'.ownsRow w.heap.size 88 2 v' (done ++ [p.1]).length (dcC (done ++ [p.1])) := by
          rw [dcC_snoc, List.length_append, ← h1, ← h2]; exact hro
        clear hok2 hp2 hp hrun hro h1 h2 h3 hpe
        go_wp2_with (at_builtin; refine wpList_append_run rfl _ _ _ _ rfl _ _ rfl rfl _ _ HRUN.out ?_)
        exact ⟨⟨j, done ++ [p.1], true, rfl, rfl, hj, by simp; omega, hro2, hb3w.trans hbo, HE2⟩, by simp [intOf]; omega⟩
set_option maxHeartbeats 1000000 in
theorem ref07_Scan (s : ByteArray) (hs : s.size ≤ 1000000) (w : World) :
    Calls Tryz.prog 32 #[.string s] w fun e w' => e = .returned (.tuple #[.string (scnV (partsD (nums s))).1, .bool (scnV (partsD (nums s))).2]) ∧ Below w.heap.size w w' := by
  have HP := Lib.hid (ref07_Parts s hs w)
  obtain ⟨zs, hzs⟩ : ∃ zs, partsD (nums s) = zs := ⟨_, rfl⟩
  have hzl := partsD_len s
  rw [hzs] at HP hzl
  rw [hzs]
  clear hzs
  go_enter Tryz.func32, Tryz.ntmps32
  go_wp2_with fail
  refine HP.out.mono ?_
  rintro e w1 ⟨v, rfl, hrow, hb⟩
  obtain ⟨a, cap, rfl, hC⟩ := own_form hrow
  clear hrow
  go_wp2_with fail
  go_loop [5] (fun i => ∃ k : Nat, i = .int .i64 k ∧ k ≤ zs.length ∧ Hid (scnV zs = scnV (zs.drop k))) (fun i => zs.length - (intOf i).toNat)
  case atStart => exact ⟨0, rfl, by omega, Lib.hid (by rw [List.drop_zero])⟩
  case round =>
    obtain ⟨k, rfl, hk, HQ⟩ := hrel
    by_cases hlt : k < zs.length
    · obtain ⟨g, rfl, hcc⟩ := hC (by omega)
      obtain ⟨d1, d2⟩ := dcC_at zs k hlt
      have e1 := hcc _ _ d1
      have e2 := hcc _ _ d2
      have hdr : zs.drop k = zs[k] :: zs.drop (k + 1) := List.drop_eq_getElem_cons hlt
      obtain ⟨z, hz⟩ : ∃ z, zs[k] = z := ⟨_, rfl⟩
      rw [hz] at e1 e2 hdr
      obtain ⟨X, hX⟩ : ∃ X, strOfNums z.1 = X := ⟨_, rfl⟩
      rw [hX] at e1
      cases he : encBD z with
      | true =>
        have hq : (X.toList == [101, 110, 99, 111, 100, 105, 110, 103]) = true := by rw [← hX]; exact he
        have HE := Lib.hid (show scnV zs = (strOfNums z.2, true) by rw [HQ.out, hdr]; unfold scnV; rw [scanE, if_pos he])
        clear hC hcc d1 d2 hdr hX he hz
        go_wp2_with fail
        go_ret2
        exact ⟨by rw [HE.out] <;> rfl, hb⟩
      | false =>
        have hq : (X.toList == [101, 110, 99, 111, 100, 105, 110, 103]) = false := by rw [← hX]; exact he
        have HE := Lib.hid (show scnV zs = scnV (zs.drop (k + 1)) by
          rw [HQ.out, hdr]
          unfold scnV
          rw [scanE, if_neg (by rw [he]; decide)])
        clear hC hcc d1 d2 hdr hX he hz
        go_wp2_with fail
        exact ⟨⟨k + 1, by go_num, by omega, HE⟩, by simp [intOf]; omega⟩
    · have HE := Lib.hid (show scnV zs = (⟨#[]⟩, false) by rw [HQ.out, List.drop_eq_nil_of_le (by omega)]; rfl)
      clear hC
      go_wp2_with fail
      go_ret2
      exact ⟨by rw [HE.out] <;> rfl, hb⟩
end Go.Proofs.YthahfoliblgegaaGreatDoor
/- 
  Layer 8: strings.Trim's contract, laid by a tool of the kit at this program; whether anything is left behind blanks are cut off.
 -/
namespace Go.Proofs
open Go.Shelf
def Tryz.lays160_ren : Go.Shelf.Ren := ⟨fun | 160 => 33 | 232 => 69 | 231 => 68 | 227 => 70 | 234 => 72 | 233 => 71 | 236 => 74 | 235 => 73 | 228 => 112 | 271 => 115 | 151 => 114 | 197 => 113 | 120 => 143 | 152 => 142 | 260 => 141 | 137 => 105 | 119 => 157 | 224 => 158 | 225 => 159 | 217 => 136 | 266 => 154 | n => n, fun | 9 => 9 | 4 => 4 | 3 => 3 | 5 => 5 | 117 => 100 | 116 => 99 | 0 => 0 | 124 => 103 | 21 => 21 | 105 => 140 | 46 => 113 | 119 => 178 | 139 => 183 | 138 => 182 | n => n, fun | 3 => 1 | 4 => 2 | n => n⟩
theorem Tryz.lays160 : Go.Proofs.Lays.n160 Tryz.prog Tryz.lays160_ren := {
  mixed := by kernel_rfl
  f119 := Tryz.func157.trans (congrArg some (by kernel_rfl))
  f120 := Tryz.func143.trans (congrArg some (by kernel_rfl))
  f137 := Tryz.func105.trans (congrArg some (by kernel_rfl))
  f151 := Tryz.func114.trans (congrArg some (by kernel_rfl))
  f152 := Tryz.func142.trans (congrArg some (by kernel_rfl))
  f160 := Tryz.func33.trans (congrArg some (by kernel_rfl))
  f197 := Tryz.func113.trans (congrArg some (by kernel_rfl))
  f217 := Tryz.func136.trans (congrArg some (by kernel_rfl))
  f224 := Tryz.func158.trans (congrArg some (by kernel_rfl))
  f225 := Tryz.func159.trans (congrArg some (by kernel_rfl))
  f227 := Tryz.func70.trans (congrArg some (by kernel_rfl))
  f228 := Tryz.func112.trans (congrArg some (by kernel_rfl))
  f231 := Tryz.func68.trans (congrArg some (by kernel_rfl))
  f232 := Tryz.func69.trans (congrArg some (by kernel_rfl))
  f233 := Tryz.func71.trans (congrArg some (by kernel_rfl))
  f234 := Tryz.func72.trans (congrArg some (by kernel_rfl))
  f235 := Tryz.func73.trans (congrArg some (by kernel_rfl))
  f236 := Tryz.func74.trans (congrArg some (by kernel_rfl))
  f260 := Tryz.func141.trans (congrArg some (by kernel_rfl))
  f266 := Tryz.func154.trans (congrArg some (by kernel_rfl))
  f271 := Tryz.func115.trans (congrArg some (by kernel_rfl))
  t0 := Tryz.underlying0
  a0 := Tryz.isAgg0
  z0 := Tryz.sizeOf0
  v0 := Tryz.zeroValue0
  t3 := Tryz.underlying3
  a3 := Tryz.isAgg3
  z3 := Tryz.sizeOf3
  v3 := Tryz.zeroValue3
  t4 := Tryz.underlying4
  a4 := Tryz.isAgg4
  z4 := Tryz.sizeOf4
  v4 := Tryz.zeroValue4
  t5 := Tryz.underlying5
  a5 := Tryz.isAgg5
  z5 := Tryz.sizeOf5
  v5 := Tryz.zeroValue5
  t9 := Tryz.underlying9
  a9 := Tryz.isAgg9
  z9 := Tryz.sizeOf9
  v9 := Tryz.zeroValue9
  t21 := Tryz.underlying21
  a21 := Tryz.isAgg21
  z21 := Tryz.sizeOf21
  v21 := Tryz.zeroValue21
  t46 := Tryz.underlying113
  a46 := Tryz.isAgg113
  z46 := Tryz.sizeOf113
  v46 := Tryz.zeroValue113
  t105 := Tryz.underlying140
  a105 := Tryz.isAgg140
  z105 := Tryz.sizeOf140
  v105 := Tryz.zeroValue140
  t116 := Tryz.underlying99
  a116 := Tryz.isAgg99
  z116 := Tryz.sizeOf99
  t117 := Tryz.underlying100
  a117 := Tryz.isAgg100
  z117 := Tryz.sizeOf100
  v117 := Tryz.zeroValue100
  t119 := Tryz.underlying178
  a119 := Tryz.isAgg178
  z119 := Tryz.sizeOf178
  t124 := Tryz.underlying103
  a124 := Tryz.isAgg103
  z124 := Tryz.sizeOf103
  v124 := Tryz.zeroValue103
  t138 := Tryz.underlying182
  a138 := Tryz.isAgg182
  z138 := Tryz.sizeOf182
  v138 := Tryz.zeroValue182
  t139 := Tryz.underlying183
  a139 := Tryz.isAgg183
  z139 := Tryz.sizeOf183
  v139 := Tryz.zeroValue183
  g3 := by kernel_rfl
  g4 := by kernel_rfl }
end Go.Proofs
namespace Go.Proofs.YthahfoliblgegaaGreatDoor
open Go.RowKit
theorem strings_Trim (s cut : ByteArray) (w : World) (hs : s.size ≤ 1000000) (hc : cut.size < 4294967281) (ha : ∀ (j : Nat) b, cut.data.toList[j]? = some b → b.toNat < 128) :
    Calls Tryz.prog 33 #[.string s, .string cut] w fun e w' => e = .returned (.string ⟨(Lib.trimS s.data.toList cut.data.toList).toArray⟩) ∧ Below w.heap.size w w' :=
  Any.strings_Trim_laid Tryz.lays160 (by kernel_rfl) s cut w (by omega) hc ha
end Go.Proofs.YthahfoliblgegaaGreatDoor
/- 
  Layer 8 in plain terms: what a Content-Type and a body come to.
 -/
namespace Go.Proofs.YthahfoliblgegaaGreatDoor
open Go.RowKit
theorem dw_nil {α : Type} (P : α → Bool) : ∀ y : List α, (y.dropWhile P).isEmpty = y.all P
  | [] => rfl
  | c :: r => by
    rw [List.dropWhile_cons, List.all_cons]
    cases P c with
    | true => simpa using dw_nil P r
    | false => rfl
theorem dw_all {α : Type} (P : α → Bool) : ∀ y : List α, (y.dropWhile P).all P = y.all P
  | [] => rfl
  | c :: r => by
    rw [List.dropWhile_cons, List.all_cons]
    cases h : P c with
    | true => simpa using dw_all P r
    | false => simp [h]
theorem trimS_nil (l cut : List UInt8) : (Lib.trimS l cut).isEmpty = l.all (cut.contains ·) := by
  unfold Lib.trimS Lib.trimLeftS Lib.trimRightS
  rw [dw_nil, List.all_reverse, dw_all, List.all_reverse]
theorem blank_bytes (s : ByteArray) : s.data.toList.all (([32, 9] : List UInt8).contains ·) = (nums s).all isBl := by
  have h : ∀ n : Fin 256, ([32, 9] : List UInt8).contains (UInt8.ofNat n.val) = isBl (n.val : Int) := by decide +kernel
  unfold nums
  rw [List.all_map]
  congr 1
  funext b
  have := h ⟨b.toNat, b.toNat_lt⟩
  simpa using this
/-- is a Content-Type blank, or of XML? -/
def xmlK (kind : ByteArray) : Bool := (nums kind).all isBl || (match parseN (nums kind) with | some tp => xmlB (strOfNums tp.1) | none => false)
/-- a Content-Type's charset. -/
def chsK (kind : ByteArray) : ByteArray × Bool := charB (pairsOf (medR (parseN (nums kind))).2)
/-- the label's encoding. -/
def labS (s : ByteArray) : Int × Bool := ofS (wantS s)
/-- what the declaration comes to: an encoding, and the reasons behind those that are there. -/
def thrK (body : ByteArray) (l : List Int) : Int × List Int :=
  if (scnV (partsD (nums body))).2 then
    (if (labS (scnV (partsD (nums body))).1).2 && !(decide ((labS (scnV (partsD (nums body))).1).1 = 1) || decide ((labS (scnV (partsD (nums body))).1).1 = 2)) then ((labS (scnV (partsD (nums body))).1).1, l) else (0, l ++ [1]))
  else (0, l)
/-- what shape and declaration come to. -/
def twoK (body : ByteArray) (l : List Int) : Int × List Int := if (shpV (nums body)).2 then ((shpV (nums body)).1, l) else thrK body l
/-- what charset, shape and declaration come to. -/
def oneK (kind body : ByteArray) (l : List Int) : Int × List Int :=
  if (chsK kind).2 then (if (labS (chsK kind).1).2 then ((labS (chsK kind).1).1, l) else twoK body (l ++ [1])) else twoK body l
def noneK (kind : ByteArray) : List Int := if xmlK kind then [] else [0]
/-- a body's encoding, its mark's length, the reasons' kinds. -/
def encP (kind body : ByteArray) : Int × Nat × List Int :=
  if (mrkV (nums body)).2.2 then ((mrkV (nums body)).1, (mrkV (nums body)).2.1, noneK kind) else ((oneK kind body (noneK kind)).1, 0, (oneK kind body (noneK kind)).2)
/-- the first of some, or -1. -/
def hdI : List Int → Int
  | [] => -1
  | c :: _ => c
/-- bytes' text, and the first wrong byte. -/
def decP (e : Int) (b : ByteArray) : ByteArray × Int :=
  if e = 0 then (strOfNums (looseN (nums b)), firstN (nums b))
  else if e = 1 ∨ e = 2 then (textS (dW (decide (e = 2)) 0 (nums b)).1, hdI (dW (decide (e = 2)) 0 (nums b)).2)
  else if isEnc e then (decS e b, -1)
  else if b.size = 0 then (⟨#[]⟩, -1) else (⟨#[]⟩, 0)
/-- a text's bytes. -/
def encQ (e : Int) (s : ByteArray) : ByteArray × Bool :=
  if e = 0 then (if okAll (nums s) then (s, true) else (⟨#[]⟩, false))
  else if e = 1 ∨ e = 2 then (encB (decide (e = 2)) s, encC s == 0)
  else (encT e s, encK e s == 0)
/-- a body's text, its encoding, the reasons. -/
def txtP (kind body : ByteArray) : ByteArray × Int × List (Int × Int) :=
  let E := encP kind body
  let D := decP E.1 (body.extract E.2.1 body.size)
  (D.1, E.1, E.2.2.map (fun k => (k, 0)) ++ (if 0 ≤ D.2 then [(2, (E.2.1 : Int) + D.2)] else []))
/-- reasons as cells. -/
def rsC (l : List (Int × Int)) : List Value := l.flatMap fun p => [.int .i8 p.1, .int .i64 p.2]
theorem rsC_app (l : List (Int × Int)) (p : Int × Int) : rsC (l ++ [p]) = rsC l ++ [.int .i8 p.1, .int .i64 p.2] := by unfold rsC; rw [List.flatMap_append]; rfl
theorem rsC_len (l : List (Int × Int)) : (rsC l).length = l.length * 2 := by
  induction l with
  | nil => rfl
  | cons p r ih => show (rsC r).length + 2 = _; rw [ih, List.length_cons]; omega
/-- reasons of these kinds, at no byte. -/
def k0 (l : List Int) : List (Int × Int) := l.map fun k => (k, 0)
theorem k0_app (l : List Int) (k : Int) : k0 (l ++ [k]) = k0 l ++ [(k, 0)] := by simp [k0]
theorem mrkV_no {l : List Int} (h : (mrkV l).2.2 = false) : (mrkV l).2.1 = 0 := by
  unfold mrkV at *
  split at h
  · cases h
  · rfl
end Go.Proofs.YthahfoliblgegaaGreatDoor
/- 
  Layer 8: is a Content-Type blank, or of XML; both walks.
 -/
namespace Go.Proofs.YthahfoliblgegaaGreatDoor
open Go.RowKit
set_option maxRecDepth 100000 in
theorem ref08_blank (s : ByteArray) (w : World) (hs : s.size ≤ 1000000) :
    Calls Tryz.prog 35 #[.string s] w fun e w' => e = .returned (.bool ((nums s).all isBl)) ∧ w = w' := by
  obtain ⟨A, hA⟩ : ∃ A, (nums s).all isBl = A := ⟨_, rfl⟩
  rw [hA]
  have HA := Lib.hid (show ((nums s).drop 0).all isBl = A by rw [List.drop_zero]; exact hA)
  clear hA
  go_enter Tryz.func35, Tryz.ntmps35
  go_wp2_with fail
  go_loop [3] (fun i => ∃ k : Nat, i = .int .i64 k ∧ k ≤ s.size ∧ Hid (((nums s).drop k).all isBl = A)) (fun i => s.size - (intOf i).toNat)
  case atStart => exact ⟨0, rfl, by omega, HA⟩
  case round =>
    obtain ⟨k, rfl, hk, HK⟩ := hrel
    by_cases hlt : k < s.size
    · have hdr := nums_drop s k hlt
      obtain ⟨c, hc⟩ : ∃ c, s[k].toNat = c := ⟨_, rfl⟩
      have hidx := index_str s k hlt (c : Int) k (by rw [hc]) rfl
      have hq := HK.out
      rw [hdr, hc, List.all_cons] at hq
      clear hdr hc HK
      by_cases h1 : (c : Int) = 32
      · have q1 : ((c : Int) != 32) = false := by simpa using h1
        have HQ := Lib.hid (show ((nums s).drop (k + 1)).all isBl = A by rw [← hq, h1]; rfl)
        clear hq h1
        go_wp2_with fail
        exact ⟨⟨k + 1, by go_num, by omega, HQ⟩, by simp [intOf]; omega⟩
      · have q1 : ((c : Int) != 32) = true := by simpa using h1
        by_cases h2 : (c : Int) = 9
        · have q2 : ((c : Int) != 9) = false := by simpa using h2
          have HQ := Lib.hid (show ((nums s).drop (k + 1)).all isBl = A by rw [← hq, h2]; rfl)
          clear hq h1 h2
          go_wp2_with fail
          exact ⟨⟨k + 1, by go_num, by omega, HQ⟩, by simp [intOf]; omega⟩
        · have q2 : ((c : Int) != 9) = true := by simpa using h2
          have hb : isBl (c : Int) = false := decide_eq_false (by omega)
          have HQ := Lib.hid (show false = A by rw [← hq, hb]; rfl)
          clear hq h1 h2 hb
          go_wp2_with fail
          go_ret
          exact ⟨ret_bool HQ.out, rfl⟩
    · have HQ := Lib.hid (show true = A by rw [← HK.out, nums_drop_end s k (by omega)]; rfl)
      go_wp2_with fail
      go_ret
      exact ⟨ret_bool HQ.out, rfl⟩
/-- Parse's answer, in texts. -/
def ParS (w w' : World) (R : Option (List Int × List (List Int × List Int))) (e : Ending) : Prop :=
  ∃ v, e = .returned (.tuple #[.agg #[.string (strOfNums (medR R).1), v], .int .i64 (if R.isSome then 0 else 70)]) ∧ Below w.heap.size w w' ∧ CReads w'.heap.size w' v (pairsOf (medR R).2).length (pairCells (pairsOf (medR R).2))
theorem xml_of (kind : ByteArray) (h : (nums kind).all isBl = false) : xmlK kind = ((parseN (nums kind)).isSome && xmlB (strOfNums (medR (parseN (nums kind))).1)) := by
  unfold xmlK
  rw [h, Bool.false_or]
  cases parseN (nums kind) with
  | none => rfl
  | some tp => rfl
set_option maxRecDepth 100000 in
theorem ref08_Xml (kind : ByteArray) (w : World) (hs : kind.size ≤ 100000) :
    Calls Tryz.prog 14 #[.string kind] w fun e w' => e = .returned (.bool (xmlK kind)) ∧ Below w.heap.size w w' := by
  have hP := fun w => ref06_Parse kind w hs
  have hB := fun w => ref08_blank kind w (by omega)
  have hx := xml_of kind
  have hml := medR_len (nums kind)
  rw [nums_length] at hml
  obtain ⟨X, hX⟩ : ∃ X, xmlK kind = X := ⟨_, rfl⟩
  have hxb : (nums kind).all isBl = true → X = true := fun h => by rw [← hX]; unfold xmlK; rw [h]; rfl
  rw [hX] at hx ⊢
  obtain ⟨R, hR⟩ : ∃ R, parseN (nums kind) = R := ⟨_, rfl⟩
  rw [hR] at hP hx hml
  obtain ⟨t, ht⟩ : ∃ t, strOfNums (medR R).1 = t := ⟨_, rfl⟩
  have hts : t.size ≤ 1000000 := by rw [← ht, size_strOfNums]; omega
  obtain ⟨n, hn⟩ : ∃ n : Int, (if R.isSome then (0 : Int) else 70) = n := ⟨_, rfl⟩
  have hP : ∀ w, Calls Tryz.prog 28 #[.string kind] w fun e w' => ∃ (a : Option Addr) (l c : Nat), e = .returned (.tuple #[.agg #[.string t, .slice a l c], .int .i64 n]) ∧ Below w.heap.size w w' := fun w => (hP w).mono fun e w' h => by
    obtain ⟨v, h1, h2, h3⟩ := h.out
    obtain ⟨a, c, rfl, -⟩ := h3
    rw [hn, ht] at h1
    exact ⟨a, _, c, h1, h2⟩
  rw [ht] at hx
  have HP := Lib.hid hP
  have HX := Lib.hid (fun v w => ref06_Xml t v w hts)
  cases hb : (nums kind).all isBl with
  | true =>
    rw [hb] at hB
    have HB := Lib.hid hB
    have hX1 := hxb hb
    subst hX1
    clear hP hB hx hxb hX hR hb ht hml hn
    go_enter Tryz.func14, Tryz.ntmps14
    go_wp2_with fail
    refine (HP.out _).mono ?_
    rintro e w1 ⟨va, vl, vc, rfl, hb1⟩
    go_wp2_with fail
    refine (HB.out _).mono ?_
    rintro e w2 ⟨rfl, rfl⟩
    go_wp2_with fail
    go_ret
    exact ⟨rfl, hb1.alloc hb1.size _⟩
  | false =>
    rw [hb] at hB
    have HB := Lib.hid hB
    have hx := hx hb
    cases hRs : R.isSome with
    | false =>
      rw [hRs] at hx hn
      have e1 : (n == 0) = false := by rw [← hn]; rfl
      have hX1 : X = false := by rw [hx]; rfl
      subst hX1
      clear hP hB hx hxb hX hR hb ht hml hn hRs
      go_enter Tryz.func14, Tryz.ntmps14
      go_wp2_with fail
      refine (HP.out _).mono ?_
      rintro e w1 ⟨va, vl, vc, rfl, hb1⟩
      go_wp2_with fail
      refine (HB.out _).mono ?_
      rintro e w2 ⟨rfl, rfl⟩
      go_wp2_with fail
      go_ret
      exact ⟨rfl, hb1.alloc hb1.size _⟩
    | true =>
      rw [hRs] at hx hn
      have e1 : (n == 0) = true := by rw [← hn]; rfl
      have HXX := Lib.hid (show xmlB t = X by rw [hx]; rfl)
      clear hP hB hx hxb hX hR hb ht hml hn hRs
      go_enter Tryz.func14, Tryz.ntmps14
      go_wp2_with fail
      refine (HP.out _).mono ?_
      rintro e w1 ⟨va, vl, vc, rfl, hb1⟩
      have hb2 := hb1.alloc hb1.size (.cells #[.string t, .slice va vl vc] 47)
      go_wp2_with fail
      refine (HB.out _).mono ?_
      rintro e w2 ⟨rfl, rfl⟩
      go_wp2_with fail
      refine (HX.out _ _).mono ?_
      rw [HXX.out]
      rintro e w2 ⟨rfl, hb3⟩
      go_wp2_with fail
      go_ret
      exact ⟨rfl, bt hb2 hb3⟩
set_option maxRecDepth 100000 in
theorem sniff_Xml (kind : ByteArray) (w : World) (hs : kind.size ≤ 100000) :
    Calls Tryz.prog 13 #[.string kind] w fun e w' => e = .returned (.bool (xmlK kind)) ∧ Below w.heap.size w w' := by
  have hP := fun w => media_Parse kind w hs
  have hB : ∀ w, Calls Tryz.prog 33 #[.string kind, .string ⟨#[32, 9]⟩] w fun e w' => ∃ r : ByteArray, e = .returned (.string r) ∧ (r.toList == []) = (nums kind).all isBl ∧ Below w.heap.size w w' := fun w =>
    (strings_Trim kind ⟨#[32, 9]⟩ w (by omega) (by decide) (fun j b h => by
      match j, h with
      | 0, h => cases h; decide
      | 1, h => cases h; decide)).mono fun e w' ⟨h1, h2⟩ => ⟨_, h1, by
      rw [ByteArray.toList_eq, ← blank_bytes, ← trimS_nil]
      show ((Lib.trimS kind.data.toList [32, 9]) == []) = _
      cases Lib.trimS kind.data.toList [32, 9] <;> rfl, h2⟩
  have hx := xml_of kind
  have hml := medR_len (nums kind)
  rw [nums_length] at hml
  obtain ⟨X, hX⟩ : ∃ X, xmlK kind = X := ⟨_, rfl⟩
  have hxb : (nums kind).all isBl = true → X = true := fun h => by rw [← hX]; unfold xmlK; rw [h]; rfl
  rw [hX] at hx ⊢
  obtain ⟨R, hR⟩ : ∃ R, parseN (nums kind) = R := ⟨_, rfl⟩
  rw [hR] at hP hx hml
  obtain ⟨t, ht⟩ : ∃ t, strOfNums (medR R).1 = t := ⟨_, rfl⟩
  have hts : t.size ≤ 1000000 := by rw [← ht, size_strOfNums]; omega
  obtain ⟨n, hn⟩ : ∃ n : Int, (if R.isSome then (0 : Int) else 70) = n := ⟨_, rfl⟩
  have hP : ∀ w, Calls Tryz.prog 22 #[.string kind] w fun e w' => ∃ (a : Option Addr) (l c : Nat), e = .returned (.tuple #[.agg #[.string t, .slice a l c], .int .i64 n]) ∧ Below w.heap.size w w' := fun w => (hP w).mono fun e w' h => by
    obtain ⟨v, h1, h2, h3⟩ := h.out
    obtain ⟨a, c, rfl, -⟩ := h3
    rw [hn, ht] at h1
    exact ⟨a, _, c, h1, h2⟩
  rw [ht] at hx
  have HP := Lib.hid hP
  have HX := Lib.hid (fun v w => media_Xml t v w hts)
  cases hb : (nums kind).all isBl with
  | true =>
    rw [hb] at hB
    have HB := Lib.hid hB
    have hX1 := hxb hb
    subst hX1
    clear hP hB hx hxb hX hR hb ht hml hn
    go_enter Tryz.func13, Tryz.ntmps13
    go_wp2_with fail
    refine (HB.out _).mono ?_
    rintro e w1 ⟨r, rfl, hr, hb1⟩
    go_wp2_with fail
    go_ret
    exact ⟨rfl, hb1⟩
  | false =>
    rw [hb] at hB
    have HB := Lib.hid hB
    have hx := hx hb
    cases hRs : R.isSome with
    | false =>
      rw [hRs] at hx hn
      have e1 : (n == 0) = false := by rw [← hn]; rfl
      have hX1 : X = false := by rw [hx]; rfl
      subst hX1
      clear hP hB hx hxb hX hR hb ht hml hn hRs
      go_enter Tryz.func13, Tryz.ntmps13
      go_wp2_with fail
      refine (HB.out _).mono ?_
      rintro e w1 ⟨r, rfl, hr, hb1⟩
      go_wp2_with fail
      refine (HP.out _).mono ?_
      rintro e w2 ⟨va, vl, vc, rfl, hb2⟩
      have hb3 := (bt hb1 hb2).alloc (bt hb1 hb2).size (.cells #[.string t, .slice va vl vc] 47)
      go_wp2_with fail
      go_ret
      exact ⟨rfl, hb3⟩
    | true =>
      rw [hRs] at hx hn
      have e1 : (n == 0) = true := by rw [← hn]; rfl
      have HXX := Lib.hid (show xmlB t = X by rw [hx]; rfl)
      clear hP hB hx hxb hX hR hb ht hml hn hRs
      go_enter Tryz.func13, Tryz.ntmps13
      go_wp2_with fail
      refine (HB.out _).mono ?_
      rintro e w1 ⟨r, rfl, hr, hb1⟩
      go_wp2_with fail
      refine (HP.out _).mono ?_
      rintro e w2 ⟨va, vl, vc, rfl, hb2⟩
      have hb3 := (bt hb1 hb2).alloc (bt hb1 hb2).size (.cells #[.string t, .slice va vl vc] 47)
      go_wp2_with fail
      refine (HX.out _ _).mono ?_
      rw [HXX.out]
      rintro e w4 ⟨rfl, hb4⟩
      go_wp2_with fail
      go_ret
      exact ⟨rfl, bt hb3 hb4⟩
end Go.Proofs.YthahfoliblgegaaGreatDoor
/- 
  Layer 8: how long names are; reasons put behind.
 -/
namespace Go.Proofs.YthahfoliblgegaaGreatDoor
open Go.RowKit
/-! how long what is read is -/
theorem quoA_vl : ∀ (n : Nat) (acc l v u : List Int), l.length ≤ n → quoA acc l = some (v, u) → v.length + u.length ≤ acc.length + l.length
  | _, acc, [], v, u, _, h => by rw [quoA_nil] at h; cases h
  | 0, acc, c :: r, v, u, hn, _ => by simp at hn
  | n + 1, acc, c :: r, v, u, hn, h => by
    simp only [List.length_cons] at hn ⊢
    by_cases e1 : c = 34
    · subst e1
      rw [quoA_quote] at h
      cases h
      omega
    · by_cases e2 : c = 92
      · subst e2
        cases r with
        | nil => cases h
        | cons d r =>
          simp only [List.length_cons] at hn ⊢
          cases he : isEsc d with
          | false => rw [quoA_esc_no he] at h; cases h
          | true =>
            rw [quoA_esc he] at h
            have := quoA_vl n _ r v u (by omega) h
            simp only [List.length_append, List.length_cons, List.length_nil] at this
            omega
      · cases hi : isQt c with
        | false => rw [quoA_out hi e1 e2] at h; cases h
        | true =>
          rw [quoA_in hi] at h
          have := quoA_vl n _ r v u (by omega) h
          simp only [List.length_append, List.length_cons, List.length_nil] at this
          omega
theorem valN_vl {l v u : List Int} (h : valN l = some (v, u)) : v.length ≤ l.length := by
  cases l with
  | nil => cases h
  | cons c r =>
    by_cases hc : c = 34
    · subst hc
      rw [valN_quote] at h
      have := quoA_vl _ _ _ _ _ (Nat.le_refl _) h
      simp only [List.length_cons, List.length_nil] at *
      omega
    · rw [valN_tok (by simpa using hc)] at h
      split at h
      · cases h
      · injection h with h
        injection h with h1 h2
        subst h1
        exact takeWhile_len_le _ _
theorem parN_vl {l u : List Int} {p : List Int × List Int} (h : parN l = some (p, u)) : p.2.length ≤ l.length := by
  by_cases h0 : l.takeWhile isTok = []
  · rw [parN_no h0] at h; cases h
  · have hdl := dropWhile_len isTok l
    cases hd : l.dropWhile isTok with
    | nil => rw [parN_end hd] at h; cases h
    | cons g t =>
      rw [hd] at hdl
      simp only [List.length_cons] at hdl
      by_cases hg : g = 61
      · subst hg
        rw [parN_eq h0 hd] at h
        cases hv : valN t with
        | none => rw [hv] at h; cases h
        | some vu =>
          obtain ⟨v, u'⟩ := vu
          have h3 := valN_vl hv
          rw [hv] at h
          cases h
          show v.length ≤ _
          omega
      · rw [parN_other hd hg] at h; cases h
theorem parA_vl (N : Nat) : ∀ (f : Nat) (acc : List (List Int × List Int)) (l : List Int) (ps : List (List Int × List Int)), (∀ p ∈ acc, p.2.length ≤ N) → l.length ≤ N → parA f acc l = some ps → ∀ p ∈ ps, p.2.length ≤ N
  | 0, _, _, _, _, _, h => by cases h
  | f + 1, acc, [], ps, ha, _, h => by cases h; exact ha
  | f + 1, acc, c :: r, ps, ha, hl, h => by
    unfold parA at h
    have hdl := dropWhile_len isBl r
    simp only [List.length_cons] at hl
    split at h
    · cases h
    · split at h
      · cases h; exact ha
      · rename_i d q hq
        rw [hq] at hdl
        split at h
        · exact parA_vl N f acc _ ps ha (by omega) h
        · split at h
          · cases h
          · rename_i p u hp
            have b4 := parN_vl hp
            have b5 := parN_len hp
            have hul := dropWhile_len isBl u
            refine parA_vl N f _ _ ps (fun x hx => ?_) (by omega) h
            rcases List.mem_append.1 hx with hx | hx
            · exact ha x hx
            · rw [List.mem_singleton.1 hx]; omega
theorem parse_vl {l t : List Int} {ps : List (List Int × List Int)} (h : parseN l = some (t, ps)) : ∀ p ∈ ps, p.2.length ≤ l.length := by
  have hl1 := dropWhile_len isBl l
  by_cases h1 : (l.dropWhile isBl).takeWhile isTok = []
  · rw [parseN_no1 h1] at h; cases h
  · have hl2 := dropWhile_len isTok (l.dropWhile isBl)
    cases h2 : (l.dropWhile isBl).dropWhile isTok with
    | nil => rw [parseN_no2 h2] at h; cases h
    | cons c r =>
      rw [h2] at hl2
      simp only [List.length_cons] at hl2
      by_cases hc : c = 47
      · subst hc
        by_cases h3 : r.takeWhile isTok = []
        · rw [parseN_no4 h2 h3] at h; cases h
        · have hl3 := dropWhile_len isTok r
          have hl4 := dropWhile_len isBl (r.dropWhile isTok)
          rw [parseN_eq h1 h2 h3] at h
          cases hp : parW [] ((r.dropWhile isTok).dropWhile isBl) with
          | none => rw [hp] at h; cases h
          | some qs =>
            rw [hp] at h
            cases h
            exact parA_vl l.length _ [] _ _ (fun _ hx => by cases hx) (by omega) hp
      · rw [parseN_no3 h2 hc] at h; cases h
theorem charB_size (N : Nat) : ∀ qs : List (ByteArray × ByteArray), (∀ q ∈ qs, q.2.size ≤ N) → (charB qs).1.size ≤ N
  | [], _ => by simp [charB, ByteArray.size]
  | q :: r, h => by
    unfold charB
    split
    · exact h q (List.mem_cons_self ..)
    · exact charB_size N r fun x hx => h x (List.mem_cons_of_mem _ hx)
theorem chsK_size (kind : ByteArray) : (chsK kind).1.size ≤ kind.size := by
  unfold chsK
  refine charB_size _ _ fun q hq => ?_
  unfold pairsOf at hq
  obtain ⟨p, hp, rfl⟩ := List.mem_map.1 hq
  show (strOfNums p.2).size ≤ _
  rw [size_strOfNums, ← nums_length]
  cases hR : parseN (nums kind) with
  | none => rw [hR] at hp; cases hp
  | some tp =>
    obtain ⟨t, ps⟩ := tp
    rw [hR] at hp
    exact parse_vl hR p hp
theorem partD_vl {s : List Int} {p : (List Int × List Int) × List Int} (h : partD s = some p) : p.1.2.length ≤ s.length := by
  unfold partD at h
  split at h
  · cases h
  · split at h
    · cases h
    · split at h
      · rename_i t ht
        have l1 := drop_len whN s
        have l2 := drop_len smN (s.dropWhile whN)
        have l3 := drop_len whN ((s.dropWhile whN).dropWhile smN)
        have l4 := drop_len whN t
        rw [ht] at l3
        simp only [List.length_cons] at l3
        cases hv : valD (t.dropWhile whN) with
        | none => rw [hv] at h; cases h
        | some x =>
          rw [hv] at h
          cases h
          show x.1.length ≤ _
          have : x.1.length ≤ (t.dropWhile whN).length := by
            cases hd : t.dropWhile whN with
            | nil => rw [hd] at hv; cases hv
            | cons q v =>
              rw [hd, valD] at hv
              split at hv
              · cases e : posN q v with
                | none => rw [e] at hv; cases hv
                | some i =>
                  rw [e] at hv
                  cases hv
                  show (v.take i).length ≤ _
                  rw [List.length_take, List.length_cons]
                  omega
              · cases hv
          omega
      · cases h
theorem parD_vl : ∀ (f : Nat) (s : List Int), ∀ p ∈ parD f s, p.2.length ≤ s.length
  | 0, _, p, h => by cases h
  | f + 1, s, p, h => by
    rw [parD] at h
    cases e : partD s with
    | none => rw [e] at h; cases h
    | some x =>
      rw [e] at h
      rcases List.mem_cons.1 h with rfl | h
      · exact partD_vl e
      · exact Nat.le_trans (parD_vl f x.2 p h) (Nat.le_of_lt (partD_lt e))
theorem scanE_mem : ∀ (l : List (List Int × List Int)) (p : List Int × List Int), scanE l = some p → p ∈ l
  | [], p, h => by cases h
  | x :: r, p, h => by
    rw [scanE] at h
    split at h
    · cases h; exact List.mem_cons_self ..
    · exact List.mem_cons_of_mem _ (scanE_mem r p h)
theorem scan_size (l : List Int) : (scnV (partsD l)).1.size ≤ 1000000 := by
  unfold scnV
  cases h : scanE (partsD l) with
  | none => exact Nat.zero_le _
  | some p =>
    show (strOfNums p.2).size ≤ _
    rw [size_strOfNums]
    have hm := scanE_mem _ _ h
    unfold partsD partsB at hm
    split at hm
    · cases hm
    · rename_i s hs
      have h1 := parD_vl _ s p hm
      unfold insB at hs
      split at hs
      · cases he : endP ((l.take 200).drop 5) with
        | none => rw [he] at hs; cases hs
        | some i =>
          rw [he] at hs
          cases hs
          rw [List.length_take, List.length_drop, List.length_take] at h1
          omega
      · cases hs
/-! reasons -/
theorem infoRs : (Tryz.prog.info? 34).map (fun i => (i.zero, i.size, i.bytes)) = some (some (.agg #[.int .i8 0, .int .i64 0]), 2, 16) := by kernel_rfl
/-- 'append(l, r)' of one reason. -/
theorem app_rs (wr : World) (base : Nat) (v : Value) (n : Nat) (xs : List Value) (hown : wr.ownsRow base 34 2 v n xs) (x y : Int) (hn : n < 1099511627776) (hbase : base ≤ wr.heap.size) :
    ∃ v' w', (Builtin.append_ #[24, 24] 24 #[v, .slice (some ⟨wr.heap.size, 0, none⟩) 1 1]).run Tryz.prog (wr.alloc (.cells #[.int .i8 x, .int .i64 y] 34)) = .ok v' w' ∧
      w'.ownsRow base 34 2 v' (n + 1) (xs ++ [.int .i8 x, .int .i64 y]) ∧ Below base wr w' := by
  obtain ⟨i0, hi, hz0, hz1, hz2⟩ := info_parts infoRs
  obtain ⟨v', w', h1, h2, h3, h4⟩ := run_append_own (P := Tryz.prog) (wr.alloc (.cells #[.int .i8 x, .int .i64 y] 34)) base 24 24 34 i0 (.agg #[.int .i8 0, .int .i64 0]) 2 16 Tryz.underlying24 hi hz0 hz1 hz2 rfl (by decide) v n _ (hown.alloc _) ⟨wr.heap.size, 0, none⟩ 1 1 [.int .i8 x, .int .i64 y] rfl
    (fun j u hj => by
      match j, hj with
      | 0, hj => simp at hj; subst hj; simp [Addr.add, World.cell?_alloc_mark]
      | 1, hj => simp at hj; subst hj; simp [Addr.add, World.cell?_alloc_mark])
    (fun u hu => by simp at hu; rcases hu with rfl | rfl <;> rfl) (by unfold maxLen; omega) (by omega) (by simp; omega)
  exact ⟨v', w', h1, by simpa using h2, ((Below.refl base wr).alloc hbase _).trans (ownBelow (hown.alloc _) h3 (Nat.le_refl _) (by simp; omega))⟩
set_option maxRecDepth 100000 in
set_option maxHeartbeats 2000000 in
/-- 'add(l, k)'. -/
theorem sniff_add (w : World) (base : Nat) (v : Value) (n : Nat) (xs : List Value) (hown : w.ownsRow base 34 2 v n xs) (k : Int) (b : Nat) (hc : w.cell? ⟨b, 0, none⟩ = some (.int .i8 k)) (hn : n < 1000000) (hbase : base ≤ w.heap.size) :
    Calls Tryz.prog 20 #[v, .slice (some ⟨b, 0, none⟩) 1 1] w fun e w' => ∃ v', e = .returned v' ∧ w'.ownsRow base 34 2 v' (n + 1) (xs ++ [.int .i8 k, .int .i64 0]) ∧ Below base w w' := by
  go_enter Tryz.func20, Tryz.ntmps20
  go_wp2_with fail
  go_loopw [0, 9] (fun vv i wr => ∃ j : Nat, i = .int .i64 j ∧ j ≤ 1 ∧ wr.ownsRow base 34 2 vv (n + j) (xs ++ if j = 0 then [] else [.int .i8 k, .int .i64 0]) ∧ Below base w wr ∧ (j = 0 → wr.cell? ⟨b, 0, none⟩ = some (.int .i8 k))) (fun _ i _ => 1 - (intOf i).toNat)
  case atStart => exact ⟨0, rfl, by omega, by simpa using hown, Below.refl _ _, fun _ => hc⟩
  case round =>
    obtain ⟨j, rfl, hj, hown', hb, hw⟩ := hrel
    by_cases hlt : j < 1
    · obtain rfl : j = 0 := by omega
      have hc0 := hw rfl
      have hbs := Nat.le_trans hbase hb.size
      rw [if_pos rfl, List.append_nil, Nat.add_zero] at hown'
      obtain ⟨v', w1, h1, h2, h3⟩ := app_rs wr base _ n xs hown' k 0 (by omega) hbs
      have HA := Lib.hid h1
      have HO := Lib.hid h2
      clear hw hown' hown h1 h2 hc hbs
      go_wp2_with (at_builtin; refine wpList_append_run rfl _ _ _ _ rfl _ _ rfl rfl _ _ HA.out ?_)
      exact ⟨⟨1, by go_num, by omega, HO.out, hb.trans h3, fun h => by cases h⟩, by simp [intOf]⟩
    · obtain rfl : j = 1 := by omega
      clear hw
      have HO := Lib.hid hown'
      clear hown' hown
      go_wp2_with fail
      go_ret
      exact ⟨_, rfl, by simpa using HO.out, hb⟩
end Go.Proofs.YthahfoliblgegaaGreatDoor
