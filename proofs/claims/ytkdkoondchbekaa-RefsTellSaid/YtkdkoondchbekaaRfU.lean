/-
  The document's Loose, loosely, SameReasons, of layer 13.
-/
import Derived.Test.YtkdkoondchbekaaRfT
import Derived.BigQuiet
namespace Go.Proofs.Ytkdkoondchbekaa
open Go.RowKit Go.Shelf
attribute [local go_sem] Oper.semAt_some
theorem ref13_loosely (s : ByteArray) (w : World) (hs : s.size ≤ 500000) :
    Calls Try.prog 32 #[.string s] w fun e w' => e = .returned (.tuple #[.int .i64 (looN htmN (nums s)).1, .int .i8 (looN htmN (nums s)).2.1, .bool (looN htmN (nums s)).2.2]) ∧ Below w.heap.size w w' := by
  obtain ⟨n1, n2, n3, hnu⟩ : ∃ a b c, numN (nums s) = (a, b, c) := ⟨_, _, _, rfl⟩
  obtain ⟨m1, m2, hna⟩ : ∃ a b, namN (nums s) = (a, b) := ⟨_, _, rfl⟩
  obtain ⟨h1, h2, hht⟩ : ∃ a b, htmN (nums s) = (a, b) := ⟨_, _, rfl⟩
  have HNU := Lib.hid (fun u => by have h := ref13_Number s u (by omega); rw [hnu] at h; exact h)
  have HNA := Lib.hid (fun u => by have h := ref13_Named s u; rw [hna] at h; exact h)
  have HHT := Lib.hid (fun u => by have h := ref13_Html s u; rw [hht] at h; exact h)
  unfold numV at HNU
  dsimp only at HNU HHT
  cases n3 with
  | true =>
    have HL := Lib.hid (show looN htmN (nums s) = (n1, -1, true) by unfold looN; rw [hnu]; rfl)
    clear hnu hna hht
    go_enter Try.func32, Try.ntmps32
    go_wp2_with fail
    refine (HNU.out _).mono ?_
    rintro e w' ⟨rfl, rfl⟩
    go_wp2
    go_ret3
    exact ⟨by rw [HL.out]; rfl, Below.refl _ _⟩
  | false =>
    cases n2 with
    | true =>
      have HL := Lib.hid (show looN htmN (nums s) = (65533, 4, true) by unfold looN; rw [hnu]; rfl)
      clear hnu hna hht
      go_enter Try.func32, Try.ntmps32
      go_wp2_with fail
      refine (HNU.out _).mono ?_
      rintro e w' ⟨rfl, rfl⟩
      go_wp2
      go_ret3
      exact ⟨by rw [HL.out]; rfl, Below.refl _ _⟩
    | false =>
      cases m2 with
      | true =>
        have HL := Lib.hid (show looN htmN (nums s) = (m1, -1, true) by unfold looN; rw [hnu, hna]; rfl)
        clear hnu hna hht
        go_enter Try.func32, Try.ntmps32
        go_wp2_with fail
        refine (HNU.out _).mono ?_
        rintro e w' ⟨rfl, rfl⟩
        go_wp2_with fail
        refine (HNA.out _).mono ?_
        rintro e w' ⟨rfl, rfl⟩
        go_wp2
        go_ret3
        exact ⟨by rw [HL.out]; rfl, Below.refl _ _⟩
      | false =>
        have HL := Lib.hid (show looN htmN (nums s) = (h1, 7, h2) by unfold looN; rw [hnu, hna, hht]; rfl)
        clear hnu hna hht
        go_enter Try.func32, Try.ntmps32
        go_wp2_with fail
        refine (HNU.out _).mono ?_
        rintro e w' ⟨rfl, rfl⟩
        go_wp2_with fail
        refine (HNA.out _).mono ?_
        rintro e w' ⟨rfl, rfl⟩
        go_wp2_with fail
        refine (HHT.out _).mono ?_
        rintro e w3 ⟨rfl, hb3⟩
        go_wp2
        go_ret3
        exact ⟨by rw [HL.out]; rfl, hb3⟩
theorem rea_app (u : World) (base : Nat) (v : Value) (zs : List (Int × Nat)) (hrow : u.ownsRow base 41 2 v zs.length (reaC zs)) (kd : Int) (a k : Nat) (hn : zs.length < 1000000000) (hbase : base ≤ u.heap.size) :
    ∃ v' w', (Builtin.append_ #[26, 26] 26 #[v, .slice (some ⟨u.heap.size, 0, none⟩) 1 1]).run Try.prog (u.alloc (.cells #[.int .i8 kd, .int .i64 ((a : Int) + (k : Int))] 41)) = .ok v' w' ∧
      w'.ownsRow base 41 2 v' (zs ++ [(kd, a + k)]).length (reaC (zs ++ [(kd, a + k)])) ∧ Below base u w' := by
  obtain ⟨v', w', h1, h2, h3⟩ := app_rea u base v zs hrow (kd, a + k) hn hbase
  dsimp only at h1 h2 h3
  rw [Int.natCast_add] at h1 h3
  have hbl := (Below.refl u.heap.size u).alloc (Nat.le_refl _) (.cells #[.int .i8 kd, .int .i64 ((a : Int) + (k : Int))] 41)
  exact ⟨v', w', h1, h2, (hbl.mono hbase).trans (ownBelow (own_below hrow hbl (Nat.le_refl _)) h3 (Nat.le_refl _) (by simp; omega))⟩
set_option maxRecDepth 100000 in
set_option maxHeartbeats 4000000 in
theorem ref13_Loose (s : ByteArray) (a0 : Nat) (hs : s.size ≤ 400000) (ha : a0 ≤ 2097152) (w : World) :
    Calls Try.prog 13 #[.string s, .int .i64 a0] w fun e w' => ∃ v, e = .returned (.tuple #[.string (strOfNums (looseR htmN a0 (nums s)).1), v]) ∧
      w'.ownsRow w.heap.size 41 2 v (looseR htmN a0 (nums s)).2.length (reaC (looseR htmN a0 (nums s)).2) ∧ Below w.heap.size w w' := by
  go_enter Try.func13, Try.ntmps13
  go_wp2
  go_loopw [6, 7, 8] (fun o v i wr => ∃ (k : Nat) (y : List Int) (zs : List (Int × Nat)), o = .string (strOfNums y) ∧ i = .int .i64 k ∧ wr.ownsRow w.heap.size 41 2 v zs.length (reaC zs) ∧ k ≤ s.size ∧ y.length ≤ 4 * k ∧ zs.length ≤ k ∧
    Hid (looseR htmN a0 (nums s) = andR y zs (looseR htmN (a0 + k) ((nums s).drop k))) ∧ Below w.heap.size w wr) (fun _ _ i _ => s.size - (intOf i).toNat)
  case atStart => exact ⟨0, [], [], rfl, rfl, World.ownsRow_nil _ _ _ _, by omega, by simp, by simp, Lib.hid (by rw [List.drop_zero]; simp [andR]), Below.refl _ _⟩
  case round =>
    obtain ⟨k, y, zs, rfl, rfl, hrow, hk, hyl, hzl, HQ, hB⟩ := hrel
    obtain ⟨O, hO⟩ : ∃ O, strOfNums y = O := ⟨_, rfl⟩
    rw [hO]
    have hOs : O.size = y.length := by rw [← hO, strOfNums_size]
    by_cases hlt : k < s.size
    · obtain ⟨c, hc⟩ : ∃ c : Int, (s[k].toNat : Int) = c := ⟨_, rfl⟩
      have hix := index_str s k hlt c k hc rfl
      have hdr := nums_drop s k hlt
      rw [hc] at hdr
      have hk1 : (k : Int) + 1 ≤ (s.size : Int) := by omega
      have hkk : (k : Int) ≤ (k : Int) + 1 := by omega
      by_cases h38 : c = 38
      · have q1 : (c == 38) = true := by simpa using h38
        have hdr38 : (nums s).drop k = 38 :: (nums s).drop (k + 1) := by rw [hdr, h38]
        have HEN := Lib.hid (fun u => ref13_end s k u (by omega) hlt)
        obtain ⟨OA, hOA⟩ : ∃ OA : ByteArray, O ++ ⟨#[38]⟩ = OA := ⟨_, rfl⟩
        have hA1 : O.size + (⟨#[38]⟩ : ByteArray).size ≤ 50000000 := by rw [show (⟨#[38]⟩ : ByteArray).size = 1 from rfl]; omega
        have hAmp : looseR htmN (a0 + k) (38 :: (nums s).drop (k + 1)) = andR [38] [(6, a0 + k)] (looseR htmN (a0 + k + 1) ((nums s).drop (k + 1))) → ∀ (u : World) (v' : Value), u.ownsRow w.heap.size 41 2 v' (zs ++ [(6, a0 + k)]).length (reaC (zs ++ [(6, a0 + k)])) → Below w.heap.size w u →
            ∃ (k' : Nat) (y' : List Int) (zs' : List (Int × Nat)), Value.string OA = .string (strOfNums y') ∧ Value.int .i64 ((k : Int) + 1) = .int .i64 k' ∧ u.ownsRow w.heap.size 41 2 v' zs'.length (reaC zs') ∧ k' ≤ s.size ∧ y'.length ≤ 4 * k' ∧ zs'.length ≤ k' ∧
              Hid (looseR htmN a0 (nums s) = andR y' zs' (looseR htmN (a0 + k') ((nums s).drop k'))) ∧ Below w.heap.size w u := by
          intro h u v' hr hb
          refine ⟨k + 1, y ++ [38], zs ++ [(6, a0 + k)], ?_, rfl, hr, by omega, by rw [List.length_append]; simp; omega, by rw [List.length_append]; simp; omega, Lib.hid ?_, hb⟩
          · rw [strOfNums_appR, hO, ← hOA]; rfl
          · rw [HQ.out, hdr38, h]
            simp [andR, Nat.add_assoc]
        cases hen : endN ((nums s).drop (k + 1)) with
        | none =>
          have hek : endK (k + 1) ((nums s).drop (k + 1)) = -1 := by unfold endK; rw [hen]
          rw [hek] at HEN
          have HN := Lib.hid (hAmp (by rw [looseR_ref, hen]))
          obtain ⟨v', u', hrun, hro, hbo⟩ := rea_app wr w.heap.size _ zs hrow 6 a0 k (by omega) hB.size
          have HA := Lib.hid hrun
          have HRO := Lib.hid hro
          clear hek hen hdr38 hdr h38 hc hO hAmp hrun hro hrow
          go_wp2_with fail
          refine (HEN.out _).mono ?_
          rintro e w' ⟨rfl, rfl⟩
          go_wp2_with (at_builtin; refine wpList_append_run rfl _ _ _ _ rfl _ _ rfl rfl _ _ HA.out ?_)
          exact ⟨HN.out _ _ HRO.out (hB.trans hbo), by simp [intOf]; omega⟩
        | some n =>
          have hek : endK (k + 1) ((nums s).drop (k + 1)) = ((n + (k + 1) : Nat) : Int) := by unfold endK; rw [hen]; rfl
          have hnl := endN_lt _ _ hen
          rw [List.length_drop, nums_length] at hnl
          obtain ⟨T, hT⟩ : ∃ T, s.extract (k + 1) (n + (k + 1)) = T := ⟨_, rfl⟩
          have hnT : nums T = ((nums s).drop (k + 1)).take n := by rw [← hT, num_ext, show n + (k + 1) - (k + 1) = n by omega]
          have hTs : T.size ≤ 500000 := by rw [← nums_length, hnT, List.length_take, List.length_drop, nums_length]; omega
          obtain ⟨r, kd, ok, hlo⟩ : ∃ a b c, looN htmN (nums T) = (a, b, c) := ⟨_, _, _, rfl⟩
          have HLO := Lib.hid (fun u => by have h := ref13_loosely T u hTs; rw [hlo] at h; exact h)
          rw [hek] at HEN
          have hto1 : (k : Int) + 1 ≤ ((n + (k + 1) : Nat) : Int) := by omega
          have hto2 : ((n + (k + 1) : Nat) : Int) ≤ (s.size : Int) := by omega
          have hto3 : (0 : Int) ≤ ((n + (k + 1) : Nat) : Int) := by omega
          have HAP := Lib.hid (fun (u : World) (hu : Below wr.heap.size wr u) (K : Int) => rea_app u w.heap.size _ zs (own_below hrow hu (Nat.le_refl _)) K a0 k (by omega) (Nat.le_trans hB.size hu.size))
          cases ok with
          | false =>
            have HN := Lib.hid (hAmp (by rw [looseR_ref, hen]; dsimp only; rw [← hnT, hlo, if_neg (by simp)]))
            clear hek hen hdr38 hdr h38 hc hO hAmp hnT hlo
            go_wp2_with fail
            refine (HEN.out _).mono ?_
            rintro e w' ⟨rfl, rfl⟩
            go_wp2_with fail
            refine (HLO.out _).mono ?_
            rintro e w2 ⟨rfl, hb2⟩
            obtain ⟨v', u', hrun, hro, hbo⟩ := HAP.out _ hb2 6
            have HA := Lib.hid hrun
            have HRO := Lib.hid hro
            clear hrun hro
            go_wp2_with (at_builtin; refine wpList_append_run rfl _ _ _ _ rfl _ _ rfl rfl _ _ HA.out ?_)
            exact ⟨HN.out _ _ HRO.out ((bt hB (hb2.mono (Nat.le_refl _))).trans hbo), by simp [intOf]; omega⟩
          | true =>
            have hq2 : looseR htmN a0 (nums s) = andR y zs (andR (encN r) (if 0 ≤ kd then [(kd, a0 + k)] else []) (looseR htmN (a0 + (k + n + 2)) ((nums s).drop (k + n + 2)))) := by
              rw [HQ.out, hdr38, looseR_ref, hen]
              dsimp only
              rw [← hnT, hlo, if_pos rfl, List.drop_drop, show k + 1 + (n + 1) = k + n + 2 by omega, show a0 + k + n + 2 = a0 + (k + n + 2) by omega]
            obtain ⟨C, hC⟩ : ∃ C, encS r = C := ⟨_, rfl⟩
            have hCs : C.size ≤ 4 := by rw [← hC, encS_size]; exact encN_len r
            have hOC : O.size + C.size ≤ 50000000 := by omega
            obtain ⟨O2, hO2⟩ : ∃ O2, O ++ C = O2 := ⟨_, rfl⟩
            have HP := Lib.hid (fun (u : World) => by have h := ref02_Put r u; rw [hC] at h; exact h)
            have hnext : ∀ (u : World) (v' : Value) (zt : List (Int × Nat)), (if 0 ≤ kd then [(kd, a0 + k)] else []) = zt → u.ownsRow w.heap.size 41 2 v' (zs ++ zt).length (reaC (zs ++ zt)) → Below w.heap.size w u →
                ∃ (k' : Nat) (y' : List Int) (zs' : List (Int × Nat)), Value.string O2 = .string (strOfNums y') ∧ Value.int .i64 (((n + (k + 1) : Nat) : Int) + 1) = .int .i64 k' ∧ u.ownsRow w.heap.size 41 2 v' zs'.length (reaC zs') ∧ k' ≤ s.size ∧ y'.length ≤ 4 * k' ∧ zs'.length ≤ k' ∧
                  Hid (looseR htmN a0 (nums s) = andR y' zs' (looseR htmN (a0 + k') ((nums s).drop k'))) ∧ Below w.heap.size w u := by
              intro u v' zt hzt hr hb
              have hl := encN_len r
              have hztl : zt.length ≤ 1 := by rw [← hzt]; split <;> simp
              refine ⟨k + n + 2, y ++ encN r, zs ++ zt, ?_, by congr 1; omega, hr, by omega, by rw [List.length_append]; omega, by rw [List.length_append]; omega, Lib.hid ?_, hb⟩
              · rw [strOfNums_appR, hO, ← hO2, ← hC]; rfl
              · rw [hq2, hzt]
                simp [andR]
            have HN := Lib.hid hnext
            have HRW := Lib.hid hrow
            clear hek hen hdr38 hdr h38 hc hO hAmp hnT hlo hq2 hnext hC hrow
            by_cases hkd : 0 ≤ kd
            · go_wp2_with fail
              refine (HEN.out _).mono ?_
              rintro e w' ⟨rfl, rfl⟩
              go_wp2_with fail
              refine (HLO.out _).mono ?_
              rintro e w2 ⟨rfl, hb2⟩
              obtain ⟨v', u', hrun, hro, hbo⟩ := HAP.out _ hb2 kd
              have HA := Lib.hid hrun
              have HRO := Lib.hid hro
              clear hrun hro
              have hB3 := (bt hB (hb2.mono (Nat.le_refl _))).trans hbo
              go_wp2_with (at_builtin; refine wpList_append_run rfl _ _ _ _ rfl _ _ rfl rfl _ _ HA.out ?_)
              refine (HP.out _).mono ?_
              rintro e w4 ⟨rfl, hb4⟩
              go_wp2
              exact ⟨HN.out _ _ _ (if_pos hkd) (own_below HRO.out hb4 (Nat.le_refl _)) (bt hB3 hb4), by simp [intOf]; omega⟩
            · go_wp2_with fail
              refine (HEN.out _).mono ?_
              rintro e w' ⟨rfl, rfl⟩
              go_wp2_with fail
              refine (HLO.out _).mono ?_
              rintro e w2 ⟨rfl, hb2⟩
              have hB3 := bt hB (hb2.mono (Nat.le_refl _))
              go_wp2_with fail
              refine (HP.out _).mono ?_
              rintro e w4 ⟨rfl, hb4⟩
              go_wp2
              exact ⟨HN.out _ _ _ (if_neg (show ¬ 0 ≤ kd by omega)) (by rw [List.append_nil]; exact own_below (own_below HRW.out hb2 (Nat.le_refl _)) hb4 (Nat.le_refl _)) (bt hB3 hb4), by simp [intOf]; omega⟩
      · have q1 : (c == 38) = false := by simpa using h38
        obtain ⟨C, hC⟩ : ∃ C, strOfNums [c] = C := ⟨_, rfl⟩
        have hCs : C.size = 1 := by rw [← hC, strOfNums_size]; rfl
        have hex : s.extract k (k + 1) = C := by rw [ext_one s k hlt, hc, hC]
        have hOC : O.size + C.size ≤ 50000000 := by omega
        obtain ⟨O2, hO2⟩ : ∃ O2, O ++ C = O2 := ⟨_, rfl⟩
        have HN := Lib.hid (show Value.string O2 = .string (strOfNums (y ++ [c])) ∧ looseR htmN a0 (nums s) = andR (y ++ [c]) zs (looseR htmN (a0 + (k + 1)) ((nums s).drop (k + 1))) from
          ⟨by rw [strOfNums_appR, hO, hC, hO2], by rw [HQ.out, hdr, looseR_char htmN (a0 + k) _ h38]; simp [andR, Nat.add_assoc]⟩)
        clear hdr h38 hc hO hC
        go_wp2
        exact ⟨⟨k + 1, y ++ [c], zs, HN.out.1, rfl, hrow, by omega, by rw [List.length_append]; simp; omega, by omega, Lib.hid HN.out.2, hB⟩, by simp [intOf]; omega⟩
    · have HR := Lib.hid (show looseR htmN a0 (nums s) = (y, zs) by rw [HQ.out, nums_drop_end s k (by omega), looseR_nil]; simp [andR])
      have HO := Lib.hid hO
      clear hO
      go_wp2
      go_ret2
      refine ⟨_, by rw [HR.out, ← HO.out]; rfl, ?_, hB⟩
      rw [HR.out]
      exact hrow
theorem addr_add0 (g j : Nat) : (⟨g, 0, none⟩ : Addr).add j = ⟨g, j, none⟩ := by
  simp only [Addr.add]
  split
  · rename_i h; subst h; rfl
  · simp
theorem reaC_at : ∀ (zs : List (Int × Nat)) (k : Nat) (h : k < zs.length), (reaC zs)[k * 2]? = some (.int .i8 zs[k].1) ∧ (reaC zs)[k * 2 + 1]? = some (.int .i64 (zs[k].2 : Nat))
  | [], _, h => by simp at h
  | z :: r, 0, _ => ⟨rfl, rfl⟩
  | z :: r, k + 1, h => by
    obtain ⟨h1, h2⟩ := reaC_at r k (by simpa using h)
    have e : reaC (z :: r) = Value.int .i8 z.1 :: Value.int .i64 (z.2 : Nat) :: reaC r := rfl
    rw [e, show (k + 1) * 2 = k * 2 + 1 + 1 by omega]
    simp only [List.getElem?_cons_succ, List.getElem_cons_succ]
    exact ⟨h1, h2⟩
set_option maxRecDepth 100000 in
set_option maxHeartbeats 2000000 in
theorem ref13_SameReasons (w : World) (b1 b2 : Nat) (va vb : Value) (zs : List (Int × Nat)) (h1 : w.ownsRow b1 41 2 va zs.length (reaC zs)) (h2 : w.ownsRow b2 41 2 vb zs.length (reaC zs)) (hz : zs.length < 1000000000) :
    Calls Try.prog 14 #[va, vb] w fun e w' => e = .returned (.bool true) ∧ Below w.heap.size w w' := by
  obtain ⟨a1, cap1, rfl, ha1⟩ : ∃ a c, va = .slice a zs.length c ∧ (0 < zs.length → ∃ g, a = some ⟨g, 0, none⟩) := by
    rcases h1.2 with ⟨hv, h⟩ | ⟨g, cap, cur, hv, _⟩
    · exact ⟨_, _, by rw [hv, h], fun h0 => by omega⟩
    · exact ⟨_, _, hv, fun _ => ⟨g, rfl⟩⟩
  obtain ⟨a2, cap2, rfl, ha2⟩ : ∃ a c, vb = .slice a zs.length c ∧ (0 < zs.length → ∃ g, a = some ⟨g, 0, none⟩) := by
    rcases h2.2 with ⟨hv, h⟩ | ⟨g, cap, cur, hv, _⟩
    · exact ⟨_, _, by rw [hv, h], fun h0 => by omega⟩
    · exact ⟨_, _, hv, fun _ => ⟨g, rfl⟩⟩
  have C1 : ∀ g, a1 = some ⟨g, 0, none⟩ → ∀ j u, (reaC zs)[j]? = some u → w.cell? ⟨g, j, none⟩ = some u := fun g hg j u hj => by subst hg; rw [← addr_add0]; exact h1.cells (g := g) rfl j u hj
  have C2 : ∀ g, a2 = some ⟨g, 0, none⟩ → ∀ j u, (reaC zs)[j]? = some u → w.cell? ⟨g, j, none⟩ = some u := fun g hg j u hj => by subst hg; rw [← addr_add0]; exact h2.cells (g := g) rfl j u hj
  clear h1 h2
  go_enter Try.func14, Try.ntmps14
  go_wp2
  go_loopw [5] (fun i wr => ∃ k n : Nat, i = .int .i64 k ∧ k ≤ zs.length ∧ wr = w.drewN n) (fun i _ => zs.length - (intOf i).toNat)
  case atStart => exact ⟨0, 0, rfl, by omega, rfl⟩
  case round =>
    obtain ⟨k, n, rfl, hk, rfl⟩ := hrel
    by_cases hlt : k < zs.length
    · obtain ⟨d1, d2⟩ := reaC_at zs k hlt
      obtain ⟨g1, rfl⟩ := ha1 (by omega)
      obtain ⟨g2, rfl⟩ := ha2 (by omega)
      have e1 := C1 _ rfl _ _ d1
      have e2 := C1 _ rfl _ _ d2
      have e3 := C2 _ rfl _ _ d1
      have e4 := C2 _ rfl _ _ d2
      obtain ⟨x, hx⟩ : ∃ x, zs[k].1 = x := ⟨_, rfl⟩
      obtain ⟨y, hy⟩ : ∃ y, zs[k].2 = y := ⟨_, rfl⟩
      rw [hx] at e1 e3
      rw [hy] at e2 e4
      clear C1 C2 d1 d2 hx hy ha1 ha2
      go_wp2_with fail
      go_quiet (fail)
      go_wp2
      exact ⟨⟨k + 1, n + nq, by go_num, by omega, by simp [World.drewN]⟩, by simp [intOf]; omega⟩
    · go_wp2
      go_ret
      exact ⟨rfl, below_dn (Below.refl _ _) _⟩
end Go.Proofs.Ytkdkoondchbekaa
