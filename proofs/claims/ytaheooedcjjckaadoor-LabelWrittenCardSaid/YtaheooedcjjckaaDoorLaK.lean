/-
  The walk of layer 5's statement LabelWritten.
-/
import Derived.Test.YtaheooedcjjckaaDoorLaJ
import Derived.Deep.RegionHeld3
namespace Go.Proofs.YtaheooedcjjckaaDoor
open Go.RowKit
theorem ws_bs {c : Int} (h : wsN c = true) : 0 ≤ c ∧ c < 256 := by
  unfold wsN at h
  simp at h
  omega
/-- what lasts while the names are told. -/
structure LK (w : World) (p g o : Nat) (N : ByteArray) (u : World) : Prop where
  bl : Below w.heap.size w u
  sz : p ≤ u.heap.size
  lt : g < p
  cell : u.cell? ⟨g, o, none⟩ = some (.string N)
theorem LK.below {w : World} {p g o : Nat} {N : ByteArray} {u u' : World} (h : LK w p g o N u) (hb : Below u.heap.size u u') : LK w p g o N u' :=
  ⟨bt h.bl hb, Nat.le_trans h.sz hb.size, h.lt, (hb.cell (p := ⟨g, o, none⟩) (Nat.lt_of_lt_of_le h.lt h.sz)).trans h.cell⟩
theorem LK.drew {w : World} {p g o : Nat} {N : ByteArray} {u : World} (h : LK w p g o N u) : LK w p g o N u.drew :=
  h.below (Below.refl _ u).drew
theorem ws_at (m : Nat) (h : m < 5) : ∃ d : Int, 0 ≤ d ∧ d < 256 ∧ wsN d = true ∧ ∀ i : Int, i = m → ∀ w, (Instr.index 9 (.string ⟨#[9, 10, 12, 13, 32]⟩) (.int .i64 i)).run Tryd.prog w = .ok (.int .u8 d) w := by
  have hs : (⟨#[9, 10, 12, 13, 32]⟩ : ByteArray).size = 5 := rfl
  refine ⟨((⟨#[9, 10, 12, 13, 32]⟩ : ByteArray)[m]'(by rw [hs]; exact h)).toNat, by omega, ?_, ?_, fun i hi w => index_str _ m (by rw [hs]; exact h) _ _ rfl hi w⟩
  · have := ((⟨#[9, 10, 12, 13, 32]⟩ : ByteArray)[m]'(by rw [hs]; exact h)).toNat_lt; omega
  · match m, h with
    | 0, _ => rfl
    | 1, _ => rfl
    | 2, _ => rfl
    | 3, _ => rfl
    | 4, _ => rfl
set_option maxRecDepth 100000 in
set_option maxHeartbeats 4000000 in
theorem law_LabelWritten (enc wh : Int) (vu : Value) (us : List Bool) (ah be : Int) (w : World) (ht : TabAt w) (hu : Reads w.heap.size w vu (us.map Value.bool)) :
    Calls Tryd.prog 4 #[.int .i8 enc, .int .i64 wh, vu, .int .i64 ah, .int .i64 be] w fun e w' => e = .returned (.bool true) ∧ Below w.heap.size w w' := by
  have HW := Lib.hid (fun (u : World) (h : TabAt u) => law05_wakes u h)
  have HM := Lib.hid ht
  clear ht
  have A1 := Lib.hid (fun u hu => label_All enc u hu)
  have A2 := Lib.hid (fun u hu => label_Name enc u hu)
  have hB := Below.refl w.heap.size w
  obtain ⟨ua, ucap, rfl, HU⟩ : ∃ a cap, vu = .slice a us.length cap ∧ ∀ i (_ : i < us.length), ∃ b off, a = some ⟨b, off, none⟩ ∧ b < w.heap.size ∧ w.cell? ⟨b, off + i, none⟩ = some (.bool us[i]) := by
    obtain ⟨hl, a, cap, rfl, h⟩ := hu
    rw [List.length_map] at hl
    refine ⟨a, cap, by rw [List.length_map], fun i hi => ?_⟩
    rcases h with h | ⟨b, off, rfl, hB, hc⟩
    · rw [List.map_eq_nil_iff] at h; subst h; simp at hi
    · exact ⟨b, off, rfl, hB, by rw [hc i (by rw [List.length_map]; exact hi), List.getElem_map]⟩
  clear hu
  have HU0 := Lib.hid HU
  clear HU
  by_cases hin : ¬ (0 ≤ enc ∧ enc < 6)
  · have hL := labL_out hin
    have hN : namS enc = ⟨#[]⟩ := by unfold namS; rw [hL]
    rw [hL] at A1
    rw [hN] at A2
    have hc2 : enc < 0 ∨ (¬ enc < 0 ∧ 6 ≤ enc) := by omega
    clear hL hN hin
    rcases hc2 with d1 | ⟨d1, d2⟩
    all_goals
      go_enter Tryd.func4, Tryd.ntmps4
      go_wp2_with fail
      refine (A1.out _ HM.out).mono ?_
      rintro e w1 ⟨v, rfl, hr, hb1⟩
      replace hB := bt hB hb1
      obtain ⟨a1, cap1, rfl, -⟩ := hr.texts
      clear hr
      go_wp2_with fail
      refine (A2.out _ (HM.out.below hB)).mono ?_
      rintro e w2 ⟨rfl, hb2⟩
      replace hB := bt hB hb2
      go_wp2_with fail
      refine (HW.out _ (HM.out.below hB)).mono ?_
      rintro e w3 ⟨rfl, hb3⟩
      go_wp2
      go_ret
      exact ⟨rfl, bt hB hb3⟩
  obtain ⟨ne, rfl⟩ : ∃ n : Nat, enc = n := ⟨enc.toNat, by omega⟩
  have hne : ne < 6 := by omega
  have hlp := lab_some ne hne
  have hll := labL_len (ne : Int)
  have hlp' : (0 : Int) < ((labL (ne : Int)).length : Int) := by omega
  have q0 : (((labL (ne : Int)).length : Int) == 0) = false := by
    have : ¬ ((labL (ne : Int)).length : Int) = 0 := by omega
    simpa using this
  obtain ⟨L, hL⟩ : ∃ L, labL (ne : Int) = L := ⟨_, rfl⟩
  rw [hL] at A1 hlp hll hlp' q0
  have HL := Lib.hid hL
  clear hL hin
  go_enter Tryd.func4, Tryd.ntmps4
  go_wp2_with fail
  refine (A1.out _ HM.out).mono ?_
  rintro e w1 ⟨v, rfl, hr, hb1⟩
  have hB1 := bt hB hb1
  obtain ⟨a1, cap1, rfl, hc1⟩ := hr.texts
  have C1 := Lib.hid hc1
  clear hr hc1
  obtain ⟨k, hk, hkl⟩ : ∃ k : Nat, (wrap64 (wh.tmod (L.length : Int) + (L.length : Int))).tmod (L.length : Int) = (k : Int) ∧ k < L.length := by
    have h1 := Int.lt_tmod_of_pos wh hlp'
    have h2 := Int.tmod_lt_of_pos wh hlp'
    obtain ⟨x, hx⟩ : ∃ x : Nat, wh.tmod (L.length : Int) + (L.length : Int) = x := ⟨(wh.tmod (L.length : Int) + (L.length : Int)).toNat, by omega⟩
    rw [hx, show wrap64 (x : Int) = x by unfold wrap64; omega, ← Int.ofNat_tmod]
    exact ⟨x % L.length, rfl, Nat.mod_lt _ hlp⟩
  obtain ⟨g1, o1, rfl, hg1, e1⟩ := C1.out k hkl
  obtain ⟨X, hX⟩ : ∃ X, L[k] = X := ⟨_, rfl⟩
  have hXm : X ∈ labL (ne : Int) := by rw [HL.out, ← hX]; exact List.getElem_mem hkl
  rw [hX] at e1
  have hkk : (k : Int) < (L.length : Int) := by omega
  have HWR := Lib.hid (fun zs ys zt => written_of ne hne X hXm zs ys zt)
  obtain ⟨hlowX, _, _, _, _, hXs⟩ := lab_facts ne hne X hXm
  have hcv := Lib.run_convert_string_bytes (P := Tryd.prog) w1 9 33 5 X Tryd.underlying9 Tryd.underlying33 Tryd.underlying5
  obtain ⟨cap, hcap⟩ : ∃ cap, grownCap w1 X.size 0 5 = cap := ⟨_, rfl⟩
  have hlr := BRow.made w1 X (by omega) cap hcap
  have hbl := bytes_below w1 5 X
  obtain ⟨w2, hw2⟩ : ∃ w2, Lib.bytesWorld w1 5 X = w2 := ⟨_, rfl⟩
  rw [hcap, hw2] at hcv
  rw [hw2] at hlr hbl
  clear hw2 hcap hX
  obtain ⟨p, hp⟩ : ∃ p, w1.heap.size = p := ⟨_, rfl⟩
  have HPS := Lib.hid (show w.heap.size ≤ p by rw [← hp]; exact hB1.size)
  have HB1 := Lib.hid (show Below w.heap.size w w2 from bt hB1 (by rw [hp]; rw [hp] at hbl; exact hbl))
  have HSZ := Lib.hid (show p ≤ w2.heap.size by rw [← hp]; exact hbl.size)
  have hC0 := (hbl.cell (p := ⟨g1, o1 + k, none⟩) hg1).trans e1
  rw [hp] at hcv hlr hg1
  clear hp
  go_wp2_with fail
  go_loopw [57] (fun i wr => ∃ (j : Nat) (ys : List Int), i = .int .i64 j ∧ j ≤ X.size ∧ BRow p wr (.slice (some ⟨p, 0, none⟩) X.size cap) ys ∧ ys.length = X.size ∧ Hid (lowL ys = nums X ∧ isBs ys) ∧ Below w2.heap.size w2 (w2) ∧ Below p w2 wr) (fun i _ => X.size - (intOf i).toNat)
  case atStart => exact ⟨0, nums X, rfl, by omega, hlr, nums_length X, Lib.hid ⟨hlowX, nums_isBs X⟩, Below.refl _ _, Below.refl _ _⟩
  case round =>
    obtain ⟨j, ys, rfl, hj, hr, hyl, HY, -, hbw⟩ := hrel
    by_cases hlt : j < X.size
    · obtain ⟨g, cp, hgv, hcc⟩ := hr.form
      have hgp : p = g := by
        injection hgv with h1 h2 h3
        injection h1 with h1
        injection h1
      subst hgp
      clear hgv
      obtain ⟨hca, hfz⟩ := hcc j (by omega)
      clear hcc
      obtain ⟨c, hc⟩ : ∃ c, ys[j]'(by omega) = c := ⟨_, rfl⟩
      rw [hc] at hca
      have hcb := HY.out.2 c (by rw [← hc]; exact List.getElem_mem _)
      have hst := hr.stored rfl j (c - 32)
      have hbs := hbw.setCell (p := ⟨p, j, none⟩) (Nat.le_refl _) (.int .u8 (c - 32))
      have HST : (97 ≤ c ∧ c ≤ 122) → Hid (lowL (ys.set j (c - 32)) = nums X ∧ isBs (ys.set j (c - 32))) := fun hh => Lib.hid (by
        refine ⟨?_, fun x hx => ?_⟩
        · rw [← HY.out.1]
          unfold lowL
          rw [List.map_set]
          have e1 : lowB (c - 32) = c := by unfold lowB; rw [if_pos (by omega)]; omega
          have e2 : lowB c = c := by unfold lowB; rw [if_neg (by omega)]
          rw [e1]
          have e3 : (ys.map lowB)[j]'(by rw [List.length_map]; omega) = c := by rw [List.getElem_map, hc, e2]
          conv => lhs; rw [← e3]
          exact List.set_getElem_self _
        · rcases List.mem_or_eq_of_mem_set hx with h | h
          · exact HY.out.2 x h
          · omega)
      have hsl : (ys.set j (c - 32)).length = X.size := by rw [List.length_set]; exact hyl
      clear hc
      by_cases hju : j < us.length
      · obtain ⟨gu, ou, rfl, hgu, eu⟩ := HU0.out j hju
        have eu := (HB1.out.cell (p := ⟨gu, ou + j, none⟩) hgu).trans eu
        have eu := (hbw.cell (p := ⟨gu, ou + j, none⟩) (by have := HPS.out; show gu < p; omega)).trans eu
        obtain ⟨bu, hbu⟩ : ∃ b, us[j] = b := ⟨_, rfl⟩
        rw [hbu] at eu
        clear hbu
        have hjui : (j : Int) < (us.length : Int) := by omega
        cases bu with
        | false =>
          go_wp2_with fail
          exact ⟨⟨j + 1, ys, by go_num, by omega, hr, hyl, HY, Below.refl _ _, hbw⟩, by simp [intOf]; omega⟩
        | true =>
          by_cases h1 : 97 ≤ c
          · have d1 := decide_eq_true h1
            by_cases h2 : c ≤ 122
            · have d2 := decide_eq_true h2
              have hwr : IntKind.u8.wrap (c - 32) = c - 32 := by rw [IntKind.wrap_u8]; omega
              have HS := HST ⟨h1, h2⟩
              go_wp2_with fail
              exact ⟨⟨j + 1, _, by go_num, by omega, hst, hsl, HS, Below.refl _ _, hbs⟩, by simp [intOf]; omega⟩
            · have d2 := decide_eq_false h2
              go_wp2_with fail
              exact ⟨⟨j + 1, ys, by go_num, by omega, hr, hyl, HY, Below.refl _ _, hbw⟩, by simp [intOf]; omega⟩
          · have d1 := decide_eq_false h1
            go_wp2_with fail
            exact ⟨⟨j + 1, ys, by go_num, by omega, hr, hyl, HY, Below.refl _ _, hbw⟩, by simp [intOf]; omega⟩
      · have hjui : ¬ (j : Int) < (us.length : Int) := by omega
        go_wp2_with fail
        exact ⟨⟨j + 1, ys, by go_num, by omega, hr, hyl, HY, Below.refl _ _, hbw⟩, by simp [intOf]; omega⟩
    · have HY2 := HY
      obtain ⟨aN, haN, ha9⟩ : ∃ n : Nat, max 0 (min ah 9) = (n : Int) ∧ n ≤ 9 := ⟨(max 0 (min ah 9)).toNat, by omega, by omega⟩
      obtain ⟨bN, hbN, hb9⟩ : ∃ n : Nat, max 0 (min be 9) = (n : Int) ∧ n ≤ 9 := ⟨(max 0 (min be 9)).toNat, by omega, by omega⟩
      go_wp2_with fail
      go_loopw [12, 15] (fun v i wq => ∃ (n : Nat) (zs : List Int), i = .int .i64 n ∧ n ≤ aN ∧ zs.length = n ∧ Hid (∀ c ∈ zs, wsN c = true) ∧ BRow p wq v (zs ++ ys) ∧ Below p w2 wq) (fun _ i _ => aN - (intOf i).toNat)
      case atStart => exact ⟨0, [], rfl, by omega, rfl, Lib.hid (fun c hc => by cases hc), hr, hbw⟩
      case round =>
        obtain ⟨n, zs, rfl, hn, hzl, HZ, hq, hbq⟩ := hrel
        have hpq : p ≤ wr.heap.size := Nat.le_trans HSZ.out hbq.size
        obtain ⟨d, hd0, hd1, hdw, hdx⟩ := ws_at (n % 5) (Nat.mod_lt _ (by decide))
        have hdx := hdx ((n : Int) % 5) (by omega)
        by_cases hln : n < aN
        · obtain ⟨v', w', hrun, hr', hb'⟩ := hq.cons d (by rw [List.length_append]; omega) hpq
          have HRUN := Lib.hid hrun
          have HQ := Lib.hid hr'
          clear hrun hr' hq
          go_wp2_with (at_builtin; refine wpList_append_run rfl _ _ _ _ rfl _ _ rfl rfl _ _ HRUN.out ?_)
          refine ⟨⟨n + 1, d :: zs, by go_num, by omega, by rw [List.length_cons, hzl], Lib.hid (fun c hc => ?_), HQ.out, hbq.trans hb'⟩, by simp [intOf]; omega⟩
          rcases List.mem_cons.1 hc with rfl | h
          · exact hdw
          · exact HZ.out c h
        · go_wp2
          go_loopw [12, 16] (fun v i wq => ∃ (n : Nat) (zt : List Int), i = .int .i64 n ∧ n ≤ bN ∧ zt.length = n ∧ Hid (∀ c ∈ zt, wsN c = true) ∧ BRow p wq v (zs ++ (ys ++ zt)) ∧ Below p w2 wq) (fun _ i _ => bN - (intOf i).toNat)
          case atStart => exact ⟨0, [], rfl, by omega, rfl, Lib.hid (fun c hc => by cases hc), by rw [List.append_nil]; exact hq, hbq⟩
          case round =>
            clear hq hbq hpq hdx hdw hd0 hd1 hr hbw
            obtain ⟨m, zt, rfl, hm, htl, HZT, hq, hbq⟩ := hrel
            have hpq : p ≤ wr.heap.size := Nat.le_trans HSZ.out hbq.size
            obtain ⟨d, hd0, hd1, hdw, hdx⟩ := ws_at ((m + 2) % 5) (Nat.mod_lt _ (by decide))
            have hdx := hdx (((m : Int) + 2) % 5) (by omega)
            by_cases hln2 : m < bN
            · obtain ⟨v', w', hrun, hr', hb'⟩ := hq.app d (by rw [List.length_append, List.length_append]; omega) hpq
              rw [List.append_assoc, List.append_assoc] at hr'
              have HRUN := Lib.hid hrun
              have HQ := Lib.hid hr'
              clear hrun hr' hq
              go_wp2_with (at_builtin; refine wpList_append_run rfl _ _ _ _ rfl _ _ rfl rfl _ _ HRUN.out ?_)
              refine ⟨⟨m + 1, zt ++ [d], by go_num, by omega, by rw [List.length_append, htl]; rfl, Lib.hid (fun c hc => ?_), HQ.out, hbq.trans hb'⟩, by simp [intOf]; omega⟩
              rcases List.mem_append.1 hc with h | h
              · exact HZT.out c h
              · rw [List.mem_singleton.1 h]; exact hdw
            · have hcs : isBs (zs ++ (ys ++ zt)) := fun c hc => by
                rcases List.mem_append.1 hc with h | h
                · exact ws_bs (HZ.out c h)
                · rcases List.mem_append.1 h with h | h
                  · exact HY2.out.2 c h
                  · exact ws_bs (HZT.out c h)
              have hof := HWR.out zs ys zt HZ.out HZT.out HY2.out.1 hcs
              have hcv2 := hq.conv
              obtain ⟨T, hT⟩ : ∃ T, strOfNums (zs ++ (ys ++ zt)) = T := ⟨_, rfl⟩
              have hTs : T.size ≤ 1000000 := by
                rw [← hT, show (strOfNums (zs ++ (ys ++ zt))).size = (zs ++ (ys ++ zt)).length by simp [strOfNums, ByteArray.size], List.length_append, List.length_append]
                omega
              rw [hT] at hof hcv2
              have B1 := Lib.hid (fun u hu => label_Of T hTs u hu)
              rw [hof] at B1
              obtain ⟨b0, o0, h0, hg0, e0⟩ := C1.out 0 hlp
              obtain ⟨rfl, rfl⟩ : b0 = g1 ∧ o0 = o1 := by
                injection h0 with h0
                injection h0 with h0 h1
                exact ⟨h0.symm, h1.symm⟩
              clear h0
              obtain ⟨N, hN⟩ : ∃ N, L[0] = N := ⟨_, rfl⟩
              have hNm : N ∈ labL (ne : Int) := by rw [HL.out, ← hN]; exact List.getElem_mem hlp
              rw [hN, Nat.add_zero] at e0
              have hnam : namS (ne : Int) = N := by
                have h1 : 0 < (labL (ne : Int)).length := by rw [HL.out]; exact hlp
                rw [namS_at h1, ← hN]
                simp only [HL.out]
              rw [hnam] at A2
              have B2 := Lib.hid (fun u hu => label_Of N (by have := (lab_facts ne hne N hNm).2.2.2.2.2; omega) u hu)
              rw [want_label ne hne N hNm] at B2
              have T0 : LK w p b0 o0 N wr := ⟨HB1.out.trans (hbq.mono HPS.out), hpq, hg1, (hbq.cell (p := ⟨b0, o0, none⟩) hg1).trans ((hbl.cell (p := ⟨b0, o0, none⟩) hg0).trans e0)⟩
              clear hof hT e0 hN hnam hNm hq hbq hdx hdw hd0 hd1 hC0 hcv e1
              go_wp2_with fail
              refine (B1.out _ (HM.out.below T0.bl)).mono ?_
              rintro e w3 ⟨rfl, hb3⟩
              replace T0 := T0.below hb3
              clear hb3
              go_wp2_with fail
              refine (A2.out _ (HM.out.below T0.bl)).mono ?_
              rintro e w4 ⟨rfl, hb4⟩
              replace T0 := T0.below hb4
              clear hb4
              go_wp2_with fail
              refine (B2.out _ (HM.out.below T0.bl)).mono ?_
              rintro e w5 ⟨rfl, hb5⟩
              replace T0 := (T0.below hb5).drew
              clear hb5
              have hc0 := T0.cell
              have e1 : ((ne : Int) == (ne : Int)) = true := by simp
              have e2 : (N.toList == N.toList) = true := by simp
              go_wp2_with fail
              go_region_held3 (fun w' => w'.cell? ⟨b0, o0, none⟩ = some (.string N)) (first | go_keep | exact hc0) (first
                | (go_at_call 10; refine (A2.out _ (HM.out.below T0.bl)).mono ?_; rintro e w7 ⟨rfl, hb⟩; have T0 := T0.below hb; have hc0 := T0.cell)
                | (go_at_call 7; refine (HW.out _ (HM.out.below T0.bl)).mono ?_; rintro e w7 ⟨rfl, hb⟩; have T0 := T0.below hb; have hc0 := T0.cell))
              go_wp2_with fail
              go_ret
              exact ⟨rfl, T0.bl⟩
end Go.Proofs.YtaheooedcjjckaaDoor
