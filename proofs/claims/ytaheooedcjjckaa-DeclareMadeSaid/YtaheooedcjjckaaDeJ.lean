/-
  Layer 7: the document's part.
-/
import Derived.Test.YtaheooedcjjckaaDeI
import Derived.Deep.CutBlock
import Derived.Deep.DeepCutAuto
namespace Go.Proofs.Ytaheooedcjjckaa
open Go.RowKit
theorem dropWhile_len (P : Int → Bool) : ∀ l : List Int, l.dropWhile P = l.drop (l.takeWhile P).length
  | [] => rfl
  | c :: t => by
    rw [List.dropWhile_cons, List.takeWhile_cons]
    split
    · rw [List.length_cons, List.drop_succ_cons, dropWhile_len P t]
    · rfl
theorem take_of_len (P : Int → Bool) : ∀ l : List Int, l.take (l.takeWhile P).length = l.takeWhile P
  | [] => rfl
  | c :: t => by
    rw [List.takeWhile_cons]
    split
    · rw [List.length_cons, List.take_succ_cons, take_of_len P t]
    · rfl
/-- a part at a place, by places. -/
theorem partD_at (L : List Int) (a k t q v : Nat) (hk : a + ((L.drop a).takeWhile whN).length = k) (ht : k + ((L.drop k).takeWhile smN).length = t) (hq : t + ((L.drop t).takeWhile whN).length = q) (hv : q + 1 + ((L.drop (q + 1)).takeWhile whN).length = v) :
    partD (L.drop a) = if k = a then none else if t = k then none else if L[q]? = some 61 then (valD (L.drop v)).map fun p => (((L.drop k).take (t - k), p.1), p.2) else none := by
  have e1 : (L.drop a).dropWhile whN = L.drop k := by rw [dropWhile_len, List.drop_drop, hk]
  have e2 : (L.drop k).dropWhile smN = L.drop t := by rw [dropWhile_len, List.drop_drop, ht]
  have e3 : (L.drop t).dropWhile whN = L.drop q := by rw [dropWhile_len, List.drop_drop, hq]
  have e4 : (L.drop (q + 1)).dropWhile whN = L.drop v := by rw [dropWhile_len, List.drop_drop, hv]
  have e5 : (L.drop k).take (t - k) = (L.drop k).takeWhile smN := by rw [show t - k = ((L.drop k).takeWhile smN).length by omega, take_of_len]
  unfold partD
  rw [e1, e2, e3, ← e5]
  by_cases h1 : k = a
  · rw [if_pos h1, if_pos (List.eq_nil_of_length_eq_zero (by omega))]
  · rw [if_neg h1, if_neg (fun e => by rw [e] at hk; simp at hk; omega)]
    by_cases h2 : t = k
    · rw [if_pos h2, if_pos (by rw [h2]; simp)]
    · rw [if_neg h2, if_neg (fun e => by rw [e5] at e; rw [e] at ht; simp at ht; omega)]
      by_cases h3 : L[q]? = some 61
      · have hlt : q < L.length := (List.getElem?_eq_some_iff.1 h3).1
        have hd : L.drop q = 61 :: L.drop (q + 1) := by
          rw [List.drop_eq_getElem_cons hlt]
          rw [(List.getElem?_eq_some_iff.1 h3).2]
        rw [if_pos h3, hd, ← e4]
        rfl
      · rw [if_neg h3]
        split
        · rename_i u e
          exfalso
          apply h3
          have := congrArg List.head? e
          rw [List.head?_drop] at this
          simpa using this
        · rfl
/-- what part tells. -/
def prtPost (s : ByteArray) (a : Nat) (w : World) (e : Ending) (w' : World) : Prop :=
  ∃ (x y : ByteArray) (to_ : Nat) (ok : Bool), e = .returned (.tuple #[.agg #[.string x, .string y], .int .i64 to_, .bool ok]) ∧ ok = (partD ((nums s).drop a)).isSome ∧ to_ ≤ s.size ∧ (ok = false → to_ = a) ∧ Below w.heap.size w w' ∧
    ∀ p, partD ((nums s).drop a) = some p → x = strOfNums p.1.1 ∧ y = strOfNums p.1.2 ∧ (nums s).drop to_ = p.2 ∧ ok = true
theorem prtPost.no {s : ByteArray} {a : Nat} {w W : World} (h : partD ((nums s).drop a) = none) (ha : a ≤ s.size) (hb : Below w.heap.size w W) : prtPost s a w (.returned (.tuple #[.agg #[.string ⟨#[]⟩, .string ⟨#[]⟩], .int .i64 a, .bool false])) W :=
  ⟨⟨#[]⟩, ⟨#[]⟩, a, false, rfl, by rw [h]; rfl, ha, fun _ => rfl, hb, fun p hp => by rw [h] at hp; cases hp⟩
set_option maxHeartbeats 1000000 in
theorem ref07_part (s : ByteArray) (a : Nat) (w : World) (hs : s.size ≤ 1000000) (ha : a ≤ s.size) : Calls Try.prog 24 #[.string s, .int .i64 a] w fun e w' => prtPost s a w e w' := by
  obtain ⟨k, hk⟩ : ∃ k, a + (((nums s).drop a).takeWhile whN).length = k := ⟨_, rfl⟩
  obtain ⟨t, ht⟩ : ∃ j, k + (((nums s).drop k).takeWhile smN).length = j := ⟨_, rfl⟩
  obtain ⟨q, hq⟩ : ∃ k, t + (((nums s).drop t).takeWhile whN).length = k := ⟨_, rfl⟩
  obtain ⟨v, hv⟩ : ∃ k, q + 1 + (((nums s).drop (q + 1)).takeWhile whN).length = k := ⟨_, rfl⟩
  have hlen : ∀ (P : Int → Bool) (i : Nat), (((nums s).drop i).takeWhile P).length ≤ s.size - i := fun P i => by
    have := (List.takeWhile_prefix P (l := (nums s).drop i)).length_le
    rw [List.length_drop, nums_length] at this
    exact this
  have lk : k ≤ s.size := by have := hlen whN a; omega
  have lt : t ≤ s.size := by have := hlen smN k; omega
  have lq : q ≤ s.size := by have := hlen whN t; omega
  have hpd := partD_at (nums s) a k t q v hk ht hq hv
  have B1 := Lib.hid (fun u => by have h := ref07_blank s a u (by omega) ha; rw [hk] at h; exact h)
  have B2 := Lib.hid (fun u => by have h := ref07_blank s t u (by omega) lt; rw [hq] at h; exact h)
  have HT := Lib.hid ht
  have hb0 := (Below.refl w.heap.size w).alloc (Nat.le_refl _) (.cells #[.string ⟨#[]⟩, .string ⟨#[]⟩] 38)
  have bk := BlkAt.new w #[.string ⟨#[]⟩, .string ⟨#[]⟩] 38
  obtain ⟨W, hW⟩ : ∃ x, w.alloc (.cells #[.string ⟨#[]⟩, .string ⟨#[]⟩] 38) = x := ⟨_, rfl⟩
  rw [hW] at hb0 bk
  clear hk ht hq
  go_enter Try.func24, Try.ntmps24
  go_wp2_with fail
  refine (B1.out _).mono ?_
  rintro e w' ⟨rfl, rfl⟩
  go_upto_block 0 with fail
  go_cut [8] (fun x wx => x = .int .i64 t ∧ W = wx)
  case first =>
    go_wp2_with fail
    go_loop [8] (fun i => ∃ j : Nat, i = .int .i64 j ∧ j ≤ s.size ∧ Hid (j + (((nums s).drop j).takeWhile smN).length = t)) (fun i => s.size - (intOf i).toNat)
    case atStart => exact ⟨k, rfl, lk, HT⟩
    case round =>
      obtain ⟨j, rfl, hj, HJ⟩ := hrel
      by_cases hlt : j < s.size
      · obtain ⟨c, hc⟩ : ∃ c : Int, (s[j].toNat : Int) = c := ⟨_, rfl⟩
        have hix := index_str s j hlt c j hc rfl
        have hdr := nums_drop s j hlt
        rw [hc] at hdr
        by_cases hsm : smN c = true
        · have HJ2 := Lib.hid (show (j + 1) + (((nums s).drop (j + 1)).takeWhile smN).length = t by
            have := HJ.out
            rw [hdr, List.takeWhile_cons, if_pos hsm, List.length_cons] at this
            omega)
          have hsm2 : 97 ≤ c ∧ c ≤ 122 := by unfold smN at hsm; exact of_decide_eq_true hsm
          obtain ⟨h1, h2⟩ := hsm2
          clear hsm hc hdr
          go_wp2_with fail
          exact ⟨⟨j + 1, by go_num, by omega, HJ2⟩, by simp [intOf]; omega⟩
        · have hjt := Lib.hid (show j = t by
            have := HJ.out
            rw [hdr, List.takeWhile_cons, if_neg hsm, List.length_nil] at this
            omega)
          have hsm2 : c < 97 ∨ (97 ≤ c ∧ 122 < c) := by
            unfold smN at hsm
            have : ¬ (97 ≤ c ∧ c ≤ 122) := fun h => hsm (decide_eq_true h)
            omega
          clear hsm hc hdr
          rcases hsm2 with h1 | ⟨h1, h2⟩
          · have h3 : decide (97 ≤ c) = false := decide_eq_false (by omega)
            go_wp2_with fail
            go_meet
            exact ⟨by rw [hjt.out], rfl⟩
          · have h3 : decide (c ≤ 122) = false := decide_eq_false (by omega)
            go_wp2_with fail
            go_meet
            exact ⟨by rw [hjt.out], rfl⟩
      · have hjt := Lib.hid (show j = t by
          have := HJ.out
          rw [nums_drop_end s j (by omega)] at this
          simpa using this)
        go_wp2_with fail
        go_meet
        exact ⟨by rw [hjt.out], rfl⟩
  case rest =>
    obtain ⟨rfl, rfl⟩ := hcut
    have c0 := bk.cell 0 rfl
    have c1 := bk.cell 1 rfl
    have f0 := bk.free 0
    have f1 := bk.free 1
    have hbx := (hb0.setCell (p := ⟨w.heap.size, 0, none⟩) (Nat.le_refl _) (.string ⟨#[]⟩)).setCell (p := ⟨w.heap.size, 1, none⟩) (Nat.le_refl _) (.string ⟨#[]⟩)
    go_wp2_with fail
    refine (B2.out _).mono ?_
    rintro e w' ⟨rfl, rfl⟩
    by_cases hka : k = a
    · have HN := Lib.hid (show partD ((nums s).drop a) = none by rw [hpd, if_pos hka])
      subst hka
      clear hpd
      go_wp2_with fail
      refine bodyPost_ret (results_cell3 rfl _ _ _ _ _ rfl ((bk.set 0 _).set 1 _) Try.underlying38 rfl (by kernel_rfl)) rfl ?_
      exact prtPost.no HN.out ha hbx
    rw [if_neg hka] at hpd
    have hka' : ((k : Int) == (a : Int)) = false := by simpa using fun e : (k : Int) = a => hka (by omega)
    by_cases htk : t = k
    · have HN := Lib.hid (show partD ((nums s).drop a) = none by rw [hpd, if_pos htk])
      subst htk
      clear hpd hka
      go_wp2_with fail
      refine bodyPost_ret (results_cell3 rfl _ _ _ _ _ rfl ((bk.set 0 _).set 1 _) Try.underlying38 rfl (by kernel_rfl)) rfl ?_
      exact prtPost.no HN.out ha hbx
    rw [if_neg htk] at hpd
    have htk' : ((t : Int) == (k : Int)) = false := by simpa using fun e : (t : Int) = k => htk (by omega)
    clear hka htk
    by_cases hqs : q < s.size
    rotate_left
    · have HN := Lib.hid (show partD ((nums s).drop a) = none by
        rw [hpd, if_neg]
        rw [List.getElem?_eq_none (by rw [nums_length]; omega)]
        simp)
      clear hpd
      go_wp2_with fail
      refine bodyPost_ret (results_cell3 rfl _ _ _ _ _ rfl ((bk.set 0 _).set 1 _) Try.underlying38 rfl (by kernel_rfl)) rfl ?_
      exact prtPost.no HN.out ha hbx
    obtain ⟨c, hc⟩ : ∃ c : Int, (s[q].toNat : Int) = c := ⟨_, rfl⟩
    have hix := index_str s q hqs c q hc rfl
    have hLq : (nums s)[q]? = some c := by rw [List.getElem?_eq_getElem (by rw [nums_length]; exact hqs), nums_at s q hqs, hc]
    rw [hLq] at hpd
    by_cases h61 : c = 61
    rotate_left
    · have HN := Lib.hid (show partD ((nums s).drop a) = none by rw [hpd, if_neg (by simpa using h61)])
      have h61' : (c != 61) = true := by simpa using h61
      clear hpd hLq hc h61
      go_wp2_with fail
      refine bodyPost_ret (results_cell3 rfl _ _ _ _ _ rfl ((bk.set 0 _).set 1 _) Try.underlying38 rfl (by kernel_rfl)) rfl ?_
      exact prtPost.no HN.out ha hbx
    subst h61
    rw [if_pos rfl] at hpd
    have HPD := Lib.hid hpd
    have lv : v ≤ s.size := by have := hlen whN (q + 1); omega
    have B3 := Lib.hid (fun u => by have h := ref07_blank s (q + 1) u (by omega) (by omega); rw [hv, show ((q + 1 : Nat) : Int) = (q : Int) + 1 from rfl] at h; exact h)
    clear hpd hLq hc hv
    go_wp2_with fail
    refine (B3.out _).mono ?_
    rintro e w' ⟨rfl, rfl⟩
    by_cases hvs : v < s.size
    rotate_left
    · have HN := Lib.hid (show partD ((nums s).drop a) = none by rw [HPD.out, nums_drop_end s v (by omega)]; rfl)
      go_wp2_with fail
      refine bodyPost_ret (results_cell3 rfl _ _ _ _ _ rfl ((bk.set 0 _).set 1 _) Try.underlying38 rfl (by kernel_rfl)) rfl ?_
      exact prtPost.no HN.out ha hbx
    obtain ⟨d, hd⟩ : ∃ c : Int, (s[v].toNat : Int) = c := ⟨_, rfl⟩
    have hixv := index_str s v hvs d v hd rfl
    have hdv := nums_drop s v hvs
    rw [hd] at hdv
    by_cases hqt : d = 34 ∨ d = 39
    rotate_left
    · have HN := Lib.hid (show partD ((nums s).drop a) = none by rw [HPD.out, hdv, valD, if_neg hqt]; rfl)
      have c34 : (d != 34) = true := by simpa using fun e => hqt (.inl e)
      have c39 : (d != 39) = true := by simpa using fun e => hqt (.inr e)
      clear hd hdv hqt
      go_wp2_with fail
      refine bodyPost_ret (results_cell3 rfl _ _ _ _ _ rfl ((bk.set 0 _).set 1 _) Try.underlying38 rfl (by kernel_rfl)) rfl ?_
      exact prtPost.no HN.out ha hbx
    have HV := Lib.hid (show partD ((nums s).drop a) = (posN d ((nums s).drop (v + 1))).map fun i => ((((nums s).drop k).take (t - k), ((nums s).drop (v + 1)).take i), (nums s).drop (v + 1 + (i + 1))) by
      rw [HPD.out, hdv, valD, if_pos hqt]
      cases posN d ((nums s).drop (v + 1)) with
      | none => rfl
      | some i => simp only [Option.map_some, List.drop_drop])
    have hqq : (d != 34) = false ∨ ((d != 34) = true ∧ (d != 39) = false) := by
      by_cases e : d = 34
      · exact .inl (by simpa using e)
      · exact .inr ⟨by simpa using e, by simpa using hqt.resolve_left e⟩
    clear hdv hqt
    have hkt : k ≤ t := by have := HT.out; omega
    have hkti : (k : Int) ≤ (t : Int) := by omega
    have ltt : (t : Int) ≤ (s.size : Int) := by omega
    rcases hqq with q34 | ⟨q34, q39⟩
    all_goals
      go_wp2_with fail
      go_loopw [11] (fun i wr => ∃ j n : Nat, i = .int .i64 j ∧ v + 1 ≤ j ∧ j ≤ s.size ∧ Hid (posN d ((nums s).drop (v + 1)) = (posN d ((nums s).drop j)).map (· + (j - (v + 1)))) ∧ wr = W.drewN n) (fun i _ => s.size - (intOf i).toNat)
      case atStart => exact ⟨v + 1, 0, rfl, by omega, by omega, Lib.hid (by simp), rfl⟩
      case round =>
        obtain ⟨j, n, rfl, hvj, hj, HJ, rfl⟩ := hrel
        by_cases hlt : j < s.size
        · obtain ⟨e, he⟩ : ∃ c : Int, (s[j].toNat : Int) = c := ⟨_, rfl⟩
          have hixj := index_str s j hlt e j he rfl
          have hdr := nums_drop s j hlt
          rw [he] at hdr
          by_cases hed : e = d
          · subst hed
            have HE := Lib.hid (show partD ((nums s).drop a) = some ((((nums s).drop k).take (t - k), ((nums s).drop (v + 1)).take (j - (v + 1))), (nums s).drop (j + 1)) by
              rw [HV.out, HJ.out, hdr, posN, if_pos rfl]
              simp only [Option.map_some, Nat.zero_add]
              rw [show v + 1 + (j - (v + 1) + 1) = j + 1 by omega])
            have X1 := Lib.hid (show s.extract k t = strOfNums (((nums s).drop k).take (t - k)) from ext_strD s k t)
            have X2 := Lib.hid (show s.extract (v + 1) j = strOfNums (((nums s).drop (v + 1)).take (j - (v + 1))) from ext_strD s (v + 1) j)
            have hvi : (v : Int) + 1 ≤ (j : Int) := by omega
            have hji : (j : Int) ≤ (s.size : Int) := by omega
            have hji2 : (j : Int) < (s.size : Int) := by omega
            have hvi2 : (v : Int) < (s.size : Int) := by omega
            clear hdr he hd
            go_wp2_with fail
            go_quiet (fail)
            have bkn := bk.drewN (n + nq)
            have c0 := bkn.cell 0 rfl
            have c1 := bkn.cell 1 rfl
            have f0 := bkn.free 0
            have f1 := bkn.free 1
            go_wp2
            go_region
            have bkm := bk.drewN (n + nq + 1)
            go_wp2_with fail
            refine bodyPost_ret (results_cell3 rfl _ _ _ _ _ rfl ((bkm.set 0 _).set 1 _) Try.underlying38 rfl (by kernel_rfl)) rfl ?_
            exact ⟨_, _, j + 1, true, rfl, by rw [HE.out]; rfl, by omega, (fun h => by cases h), ((below_dn hb0 (n + nq + 1)).setCell (p := ⟨w.heap.size, 0, none⟩) (Nat.le_refl _) _).setCell (p := ⟨w.heap.size, 1, none⟩) (Nat.le_refl _) _,
              fun p hp => by rw [HE.out] at hp; cases hp; exact ⟨X1.out, X2.out, rfl, rfl⟩⟩
          · have HJ2 := Lib.hid (show posN d ((nums s).drop (v + 1)) = (posN d ((nums s).drop (j + 1))).map (· + (j + 1 - (v + 1))) by
              rw [HJ.out, hdr, posN, if_neg hed, Option.map_map]
              congr 1
              funext i
              simp only [Function.comp]
              omega)
            have hed' : (e == d) = false := by simpa using hed
            have hji2 : (j : Int) < (s.size : Int) := by omega
            have hvi2 : (v : Int) < (s.size : Int) := by omega
            clear hdr he hed hd
            go_wp2_with fail
            go_quiet (fail)
            go_wp2
            exact ⟨⟨j + 1, n + nq, by go_num, by omega, by omega, HJ2, by simp [World.drewN]⟩, by simp [intOf]; omega⟩
        · have HN := Lib.hid (show partD ((nums s).drop a) = none by rw [HV.out, HJ.out, nums_drop_end s j (by omega)]; rfl)
          have bkn := bk.drewN n
          have c0 := bkn.cell 0 rfl
          have c1 := bkn.cell 1 rfl
          have f0 := bkn.free 0
          have f1 := bkn.free 1
          go_wp2_with fail
          refine bodyPost_ret (results_cell3 rfl _ _ _ _ _ rfl ((bkn.set 0 _).set 1 _) Try.underlying38 rfl (by kernel_rfl)) rfl ?_
          exact prtPost.no HN.out ha (((below_dn hb0 n).setCell (p := ⟨w.heap.size, 0, none⟩) (Nat.le_refl _) _).setCell (p := ⟨w.heap.size, 1, none⟩) (Nat.le_refl _) _)
end Go.Proofs.Ytaheooedcjjckaa
