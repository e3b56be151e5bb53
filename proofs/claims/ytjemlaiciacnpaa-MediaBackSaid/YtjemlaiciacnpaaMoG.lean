/-
  Layer 6: the walk of the reference's Text, a right type.
-/
import Derived.Test.YtjemlaiciacnpaaMoF
import Derived.Test.YtjemlaiciacnpaaMoA
namespace Go.Proofs.Ytjemlaiciacnpaa
open Go.RowKit
theorem nums_apG (x y : ByteArray) : nums (x ++ y) = nums x ++ nums y := by
  unfold nums
  rw [ByteArray.data_append, Array.toList_append, List.map_append]
set_option maxRecDepth 100000 in
set_option maxHeartbeats 8000000 in
theorem ref06_Text_yes (B : Nat) (t : ByteArray) (v : Value) (qs : List (ByteArray × ByteArray)) (w : World) (m : Int) (hm : MaxAt w m) (hr : CReads B w v qs.length (pairCells qs)) (hB : B ≤ w.heap.size) (ht : t.size ≤ 1000000) (hl : qs.length ≤ 1000000) (hz : ∀ q ∈ qs, q.1.size ≤ 1000000 ∧ q.2.size ≤ 1000000) (hT : typB (nums t) = true) :
    Calls Try.prog 19 #[.agg #[.string t, v]] w fun e w' => TxtR (txtN (nums t) (numsP qs)) e ∧ Below w.heap.size w w' := by
  have hR : txtN (nums t) (numsP qs) = (parT (numsP (qs.drop 0))).map fun q => nums t ++ q := by unfold txtN; rw [hT]; rfl
  obtain ⟨R, hRR⟩ : ∃ R, txtN (nums t) (numsP qs) = R := ⟨_, rfl⟩
  rw [hRR] at hR ⊢
  clear hRR
  have HR := Lib.hid hR
  clear hR
  have hr0 := hr
  obtain ⟨a, cap, rfl, -⟩ := hr0
  obtain ⟨N, hN⟩ : ∃ N, qs.length = N := ⟨_, rfl⟩
  rw [hN] at hr hl ⊢
  have T0 : TxI w w.heap.size #[.string t, .slice a N cap] m (w.alloc (.cells #[.string t, .slice a N cap] 25)) :=
    ⟨BlkAt.new w _ _, (Below.refl w.heap.size w).alloc (Nat.le_refl _) _, by simp, hm.below ((Below.refl w.heap.size w).alloc (Nat.le_refl _) _)⟩
  have h1 := fun u => ref06_token t 0 u (Nat.zero_le _) (by omega)
  rw [Nat.zero_add] at h1
  have hat := typ_at t
  have hno1 := typ_no1 t
  have hno2 := typ_no2 t
  obtain ⟨E, hE⟩ : ∃ E, spanN isTok t 0 = E := ⟨_, rfl⟩
  have hat' : ∀ h : E < t.size, (t[E].toNat : Int) = 47 → typB (nums t) = (namB (nums (t.extract 0 E)) && namB (nums (t.extract (E + 1) t.size))) := by subst hE; exact hat
  have hno1' : t.size ≤ E → typB (nums t) = false := by subst hE; exact hno1
  have hno2' : ∀ h : E < t.size, (t[E].toNat : Int) ≠ 47 → typB (nums t) = false := by subst hE; exact hno2
  clear hat hno1 hno2
  rw [hE] at h1
  have H1 := Lib.hid h1
  clear h1 hE
  rw [hT] at hno1' hno2' hat'
  have hlt : E < t.size := by
    rcases Nat.lt_or_ge E t.size with h | h
    · exact h
    · exact absurd (hno1' h) (by decide)
  have hge := decide_eq_false (show ¬ t.size ≤ E by omega)
  obtain ⟨c, hc⟩ : ∃ c, t[E].toNat = c := ⟨_, rfl⟩
  have hidx := index_str t E hlt (c : Int) E (by rw [hc]) rfl
  have hat := hat' hlt
  have hno2 := hno2' hlt
  rw [hc] at hat hno2
  clear hat' hno1' hno2' hc
  have hc47 : (c : Int) = 47 := by
    by_cases h : (c : Int) = 47
    · exact h
    · exact absurd (hno2 h) (by decide)
  have q2 : ((c : Int) != 47) = false := by simp [hc47]
  have hnn := hat hc47
  clear hat hno2 hc47 hT
  obtain ⟨X1, hX1⟩ : ∃ x, t.extract 0 E = x := ⟨_, rfl⟩
  obtain ⟨X2, hX2⟩ : ∃ x, t.extract (E + 1) t.size = x := ⟨_, rfl⟩
  have hz1 : X1.size ≤ 1000000 := by rw [← hX1, ByteArray.size_extract]; omega
  have hz2 : X2.size ≤ 1000000 := by rw [← hX2, ByteArray.size_extract]; omega
  rw [hX1, hX2] at hnn
  have hnn2 := hnn.symm
  rw [Bool.and_eq_true] at hnn2
  obtain ⟨k1, k2⟩ := hnn2
  have h3 := fun u => ref06_name X1 u hz1
  have h4 := fun u => ref06_name X2 u hz2
  rw [k1] at h3
  rw [k2] at h4
  have H3 := Lib.hid h3
  have H4 := Lib.hid h4
  clear h3 h4 hnn k1 k2
  have HN := Lib.hid (fun (x : ByteArray) (h : x.size ≤ 1000000) u => ref06_name x u h)
  go_enter Try.func19, Try.ntmps19
  have hc0 := T0.blk.cell 0 rfl
  go_wp2_with fail
  refine (H1.out _).mono ?_
  rintro e w1 ⟨rfl, rfl⟩
  go_wp2_with fail
  obtain ⟨bm, hbm⟩ : ∃ bm, w.heap.size = bm := ⟨_, rfl⟩
  have HBM := Lib.hid hbm
  rw [hbm] at T0 hc0 ⊢
  clear hbm
  generalize w.alloc (.cells #[.string t, .slice a N cap] 25) = w1 at T0 hc0 ⊢
  refine (H3.out _).mono ?_
  rintro e w2 ⟨rfl, hb1⟩
  replace T0 := T0.below hb1
  replace hc0 := T0.blk.cell 0 rfl
  go_wp2_with fail
  refine (H4.out _).mono ?_
  rintro e w3 ⟨rfl, hb2⟩
  replace T0 := T0.below hb2
  replace hc0 := T0.blk.cell 0 rfl
  have hc1 := T0.blk.cell 1 rfl
  clear hb1 hb2 hX1 hX2 hidx hge q2
  go_wp2_with fail
  go_loopw [5, 6] (fun o i wr => ∃ (k : Nat) (O : ByteArray), o = .string O ∧ i = .int .i64 k ∧ k ≤ N ∧ O.size ≤ 1000000 + k * 3000010 ∧ Hid (R = (parT (numsP (qs.drop k))).map fun q => nums O ++ q) ∧ TxI w bm #[.string t, .slice a N cap] m wr) (fun _ i _ => N - (intOf i).toNat)
  case atStart => exact ⟨0, t, rfl, rfl, by omega, by omega, HR, T0⟩
  case round =>
    clear hc1 hc0 T0 HR
    obtain ⟨k, O, rfl, rfl, hk, hO, HK, T⟩ := hrel
    have hc1 := T.blk.cell 1 rfl
    by_cases hlt : k < N
    · obtain ⟨b, off, cap', q1, q2, hv, hq, hdr, hw0, hw1⟩ := hr.pair T.bl hB k (by omega)
      cases hv
      have hqz := hz (q1, q2) (List.mem_of_getElem? hq)
      have hn1 : q1.size ≤ 1000000 := hqz.1
      have hn2 : q2.size ≤ 1000000 := hqz.2
      have hs1 : ¬ 9223372036854775807 < O.size + 2 := by omega
      have hs2 : ¬ 9223372036854775807 < O.size + 2 + q1.size := by omega
      have hs3 : ¬ 9223372036854775807 < O.size + 2 + q1.size + 1 := by omega
      have hs4 : ¬ 9223372036854775807 < O.size + 2 + q1.size + 1 + q2.size := by omega
      have hs5 : ¬ 9223372036854775807 < O.size + 2 + q1.size + 1 + 1 := by omega
      have hqk := HK.out
      rw [hdr] at hqk
      have hqk2 : R = (parT ((nums q1, nums q2) :: numsP (qs.drop (k + 1)))).map fun q => nums O ++ q := hqk
      rw [parT] at hqk2
      have P0 := T.par q1 q2
      have h5 := fun u => ref06_name q1 u hqz.1
      clear hqk hdr hq hr HK
      cases hnm : namB (nums q1) with
      | false =>
        have hRn : R = none := by rw [hqk2, hnm]; rfl
        subst hRn
        rw [hnm] at h5
        have H5 := Lib.hid h5
        clear hqk2 hnm h5
        go_wp2_with fail
        refine (H5.out _).mono ?_
        rintro e w3 ⟨rfl, hb3⟩
        replace P0 := P0.below hb3
        go_wp2_with fail
        go_ret2
        exact ⟨rfl, P0.t.bl⟩
      | true =>
        rw [hnm] at h5
        have H5 := Lib.hid h5
        rw [hnm] at hqk2
        simp only [if_true] at hqk2
        have HQ := Lib.hid hqk2
        clear hqk2 hnm h5
        have HTQ := Lib.hid (fun u => ref06_token q2 0 u (Nat.zero_le _) (by have := hqz.2; omega))
        have hsp : (0 + spanN isTok q2 0 = q2.size) ↔ (nums q2).all isTok = true := by
          unfold spanN
          rw [List.drop_zero, Nat.zero_add, ← takeWhile_len_all, nums_length]
        obtain ⟨F, hF⟩ : ∃ F, 0 + spanN isTok q2 0 = F := ⟨_, rfl⟩
        rw [hF] at HTQ hsp
        clear hF
        obtain ⟨O1, hO1⟩ : ∃ O1, O1 = ((O ++ (⟨#[59, 32]⟩ : ByteArray)) ++ q1) ++ (⟨#[61]⟩ : ByteArray) := ⟨_, rfl⟩
        have hO1n : nums O1 = nums O ++ (59 :: 32 :: (nums q1 ++ [61])) := by
          rw [hO1, nums_apG, nums_apG, nums_apG]
          show (nums O ++ [59, 32] ++ nums q1) ++ [61] = _
          simp
        have HO1 := Lib.hid hO1n
        have HO1e := Lib.hid hO1
        clear hO1 hO1n
        by_cases htk : tokB (nums q2) = true
        · obtain ⟨hne, hall⟩ := (tokB_iff _).1 htk
          have e0 : (q2.toList == []) = false := by
            have : ¬ q2.toList = [] := fun e => hne (by
              rw [ByteArray.toList_eq] at e
              unfold nums
              rw [e]; rfl)
            simpa using this
          have hF := hsp.2 hall
          have e1 : ((F : Int) == (q2.size : Int)) = true := by rw [hF]; simp
          have hR2 : R = (parT (numsP (qs.drop (k + 1)))).map fun q => nums O ++ (59 :: 32 :: (nums q1 ++ 61 :: (nums q2 ++ q))) := by
            rw [HQ.out, show wriN (nums q2) = some (nums q2) by unfold wriN; rw [if_pos htk]]
            simp only [Option.map_map]
            rfl
          have HR2 := Lib.hid hR2
          clear hR2 HQ hsp htk hne hall hF
          go_wp2_with fail
          refine (H5.out _).mono ?_
          rintro e w3 ⟨rfl, hb3⟩
          replace P0 := P0.below hb3
          have hd0 := P0.par.cell 0 rfl
          have hd1 := P0.par.cell 1 rfl
          clear hb3
          go_wp2_with fail
          go_quiet ((go_at_call 26; exact Calls.quiet_of_same ((HTQ.out _).mono fun _ _ h => ⟨h.1, h.2.symm⟩)))
          go_wp2_with fail
          refine ⟨⟨k + 1, _, rfl, by go_num, by omega, ?_, Lib.hid ?_, (P0.drewN _).t⟩, by simp [intOf]; omega⟩
          · simp only [ByteArray.size_append]
            show O.size + 2 + q1.size + 1 + q2.size ≤ _
            omega
          rw [HR2.out]
          congr 1
          funext q
          rw [nums_apG, ← HO1e.out, HO1.out]
          simp
        · have htk : tokB (nums q2) = false := by simpa using htk
          have hR2 : R = (escL ((nums q2).drop 0)).bind fun q => (parT (numsP (qs.drop (k + 1)))).map fun z => nums (O1 ++ (⟨#[34]⟩ : ByteArray)) ++ (q ++ 34 :: z) := by
            rw [HQ.out, show wriN (nums q2) = (escL (nums q2)).map fun q => 34 :: (q ++ [34]) by unfold wriN; rw [if_neg (by rw [htk]; decide)], List.drop_zero, nums_apG, HO1.out]
            cases escL (nums q2) with
            | none => rfl
            | some q =>
              show Option.map _ (Option.map _ _) = Option.map _ _
              rw [Option.map_map]
              congr 1
              funext z
              show nums O ++ (59 :: 32 :: (nums q1 ++ 61 :: (34 :: (q ++ [34]) ++ z))) = (nums O ++ 59 :: 32 :: (nums q1 ++ [61]) ++ [34]) ++ (q ++ 34 :: z)
              simp
          have HR2 := Lib.hid hR2
          clear hR2 HQ HO1
          obtain ⟨e0, e1, hemp⟩ | ⟨e0, hemp⟩ : ((q2.toList == []) = false ∧ ((F : Int) == (q2.size : Int)) = false ∧ True) ∨ ((q2.toList == []) = true ∧ True) := by
            by_cases h0 : q2.toList = []
            · exact .inr ⟨by simpa using h0, trivial⟩
            · refine .inl ⟨by simpa using h0, ?_, trivial⟩
              have hne : nums q2 ≠ [] := fun e => h0 (by
                rw [ByteArray.toList_eq]
                unfold nums at e
                simpa using e)
              have : ¬ (F : Int) = (q2.size : Int) := fun e => by
                rw [(tokB_iff _).2 ⟨hne, hsp.1 (by omega)⟩] at htk
                cases htk
              simpa using this
          all_goals
            clear hsp htk hemp
            go_wp2_with fail
            refine (H5.out _).mono ?_
            rintro e w3 ⟨rfl, hb3⟩
            replace P0 := P0.below hb3
            have hd0 := P0.par.cell 0 rfl
            have hd1 := P0.par.cell 1 rfl
            clear hb3
            go_wp2_with fail
            go_quiet ((go_at_call 26; exact Calls.quiet_of_same ((HTQ.out _).mono fun _ _ h => ⟨h.1, h.2.symm⟩)))
            go_wp2_with fail
            obtain ⟨pp, hpp⟩ : ∃ pp, wr.heap.size = pp := ⟨_, rfl⟩
            rw [hpp] at P0 hd0 hd1 ⊢
            clear hpp
            have P1 := P0.drewN
            clear P0
            go_loopw [5, 8] (fun o i wi => ∃ (j : Nat) (O2 : ByteArray), o = .string O2 ∧ i = .int .i64 j ∧ j ≤ q2.size ∧ O2.size ≤ 1000000 + k * 3000010 + 1000004 + 2 * j ∧ Hid (R = (escL ((nums q2).drop j)).bind fun q => (parT (numsP (qs.drop (k + 1)))).map fun z => nums O2 ++ (q ++ 34 :: z)) ∧ TxP w bm #[.string t, .slice (some ⟨b, off, none⟩) N cap] m pp q1 q2 wi) (fun _ i _ => q2.size - (intOf i).toNat)
            case atStart =>
              refine ⟨0, _, rfl, rfl, by omega, ?_, ?_, P1 _⟩
              · simp only [ByteArray.size_append]
                show O.size + 2 + q1.size + 1 + 1 ≤ _
                omega
              have := HR2
              rw [HO1e.out] at this
              exact this
            case round =>
              clear hd0 hd1 P1 HR2 HO1e hc1 HTQ H5
              obtain ⟨j, O2, rfl, rfl, hj, hO2, HK2, P0⟩ := hrel
              clear hs1 hs2 hs3 hs4 hs5
              have hs6 : ¬ 9223372036854775807 < O2.size + 1 := by omega
              have hs7 : ¬ 9223372036854775807 < O2.size + 1 + 1 := by omega
              have hd1 := P0.par.cell 1 rfl
              have hqs := hqz.2
              by_cases hlt2 : j < q2.size
              · have hdr2 := nums_drop q2 j hlt2
                obtain ⟨c, hc⟩ : ∃ c, q2[j].toNat = c := ⟨_, rfl⟩
                have hc256 : c < 256 := by rw [← hc]; exact byte256 q2 j hlt2
                have hidx := index_str q2 j hlt2 (c : Int) j (by rw [hc]) rfl
                have hX := nums_one q2 j hlt2 c hc
                have hZ1 : (q2.extract j (j + 1)).size = 1 := by rw [ByteArray.size_extract]; omega
                obtain ⟨Z, hZ⟩ : ∃ Z, q2.extract j (j + 1) = Z := ⟨_, rfl⟩
                rw [hZ] at hX hZ1
                have HX := Lib.hid hX
                clear hX
                have hs8 : ¬ 9223372036854775807 < O2.size + Z.size := by omega
                have hs9 : ¬ 9223372036854775807 < O2.size + 1 + Z.size := by omega
                have HZ1 := Lib.hid hZ1
                clear hZ1
                have hq3 := HK2.out
                rw [hdr2, hc, escL] at hq3
                clear hdr2 hc HK2
                by_cases hc2 : (c : Int) = 34 ∨ (c : Int) = 92
                · rw [if_pos hc2, Option.bind_map] at hq3
                  have HQ3 := Lib.hid hq3
                  clear hq3
                  rcases hc2 with e4 | e4
                  · have g1 : ((c : Int) == 34) = true := by simpa using e4
                    clear e4
                    go_wp2_with fail
                    refine ⟨⟨j + 1, _, rfl, by go_num, by omega, by have := HZ1.out; simp only [ByteArray.size_append]; first | omega | (show O2.size + 1 + Z.size ≤ _; omega), Lib.hid ?_, P0⟩, by simp [intOf]; omega⟩
                    rw [HQ3.out, nums_apG, nums_apG, HX.out]
                    congr 1
                    funext q
                    show Option.map _ _ = Option.map _ _
                    congr 1
                    funext z
                    show nums O2 ++ (92 :: (c : Int) :: q ++ 34 :: z) = ((nums O2 ++ [92]) ++ [(c : Int)]) ++ (q ++ 34 :: z)
                    simp
                  · have g1 : ((c : Int) == 34) = false := by rw [e4]; rfl
                    have g2 : ((c : Int) == 92) = true := by simpa using e4
                    clear e4
                    go_wp2_with fail
                    refine ⟨⟨j + 1, _, rfl, by go_num, by omega, by have := HZ1.out; simp only [ByteArray.size_append]; first | omega | (show O2.size + 1 + Z.size ≤ _; omega), Lib.hid ?_, P0⟩, by simp [intOf]; omega⟩
                    rw [HQ3.out, nums_apG, nums_apG, HX.out]
                    congr 1
                    funext q
                    show Option.map _ _ = Option.map _ _
                    congr 1
                    funext z
                    show nums O2 ++ (92 :: (c : Int) :: q ++ 34 :: z) = ((nums O2 ++ [92]) ++ [(c : Int)]) ++ (q ++ 34 :: z)
                    simp
                · have g1 : ((c : Int) == 34) = false := by simpa using fun e => hc2 (.inl e)
                  have g2 : ((c : Int) == 92) = false := by simpa using fun e => hc2 (.inr e)
                  have hwi := fun u => ref06_within (c : Int) u
                  rw [if_neg hc2] at hq3
                  cases hi : isQt (c : Int) with
                  | false =>
                    have hRn : R = none := by rw [hq3, hi]; rfl
                    subst hRn
                    rw [hi] at hwi
                    have HWI := Lib.hid hwi
                    clear hq3 hi hwi hc2
                    go_wp2_with fail
                    refine (HWI.out _).mono ?_
                    rintro e w4 ⟨rfl, rfl⟩
                    go_wp2_with fail
                    go_ret2
                    exact ⟨rfl, P0.t.bl⟩
                  | true =>
                    rw [hi, if_pos rfl, Option.bind_map] at hq3
                    rw [hi] at hwi
                    have HWI := Lib.hid hwi
                    have HQ3 := Lib.hid hq3
                    clear hq3 hi hwi hc2
                    go_wp2_with fail
                    refine (HWI.out _).mono ?_
                    rintro e w4 ⟨rfl, rfl⟩
                    go_wp2_with fail
                    refine ⟨⟨j + 1, _, rfl, by go_num, by omega, by have := HZ1.out; simp only [ByteArray.size_append]; first | omega | (show O2.size + 1 + Z.size ≤ _; omega), Lib.hid ?_, P0⟩, by simp [intOf]; omega⟩
                    rw [HQ3.out, nums_apG, HX.out]
                    congr 1
                    funext q
                    show Option.map _ _ = Option.map _ _
                    congr 1
                    funext z
                    show nums O2 ++ ((c : Int) :: q ++ 34 :: z) = (nums O2 ++ [(c : Int)]) ++ (q ++ 34 :: z)
                    simp
              · have hq3 := HK2.out
                rw [nums_drop_end q2 j (by omega)] at hq3
                have HQ3 := Lib.hid (show R = (parT (numsP (qs.drop (k + 1)))).map fun z => nums O2 ++ (34 :: z) by rw [hq3]; rfl)
                clear hq3 HK2
                go_wp2_with fail
                refine ⟨⟨k + 1, _, rfl, by go_num, by omega, by simp only [ByteArray.size_append]; show O2.size + 1 ≤ _; omega, Lib.hid ?_, P0.t⟩, by simp [intOf]; omega⟩
                rw [HQ3.out, nums_apG]
                congr 1
                funext z
                show nums O2 ++ (34 :: z) = (nums O2 ++ [34]) ++ z
                simp
    · rw [List.drop_eq_nil_of_le (by omega)] at HK
      have hRs : R = some (nums O) := by rw [HK.out]; simp [numsP, parT]
      subst hRs
      clear hr
      go_wp2_with fail
      go_ret2
      exact ⟨by unfold TxtR; rw [show (some (nums O)).getD [] = nums O from rfl, strOfNums_nums]; rfl, T.bl⟩
theorem ref06_Text (B : Nat) (t : ByteArray) (v : Value) (qs : List (ByteArray × ByteArray)) (w : World) (m : Int) (hm : MaxAt w m) (hr : CReads B w v qs.length (pairCells qs)) (hB : B ≤ w.heap.size) (ht : t.size ≤ 1000000) (hl : qs.length ≤ 1000000) (hz : ∀ q ∈ qs, q.1.size ≤ 1000000 ∧ q.2.size ≤ 1000000) :
    Calls Try.prog 19 #[.agg #[.string t, v]] w fun e w' => TxtR (txtN (nums t) (numsP qs)) e ∧ Below w.heap.size w w' := by
  cases hT : typB (nums t) with
  | true => exact ref06_Text_yes B t v qs w m hm hr hB ht hl hz hT
  | false => exact ref06_Text_no B t v qs w hr ht hT
end Go.Proofs.Ytjemlaiciacnpaa
