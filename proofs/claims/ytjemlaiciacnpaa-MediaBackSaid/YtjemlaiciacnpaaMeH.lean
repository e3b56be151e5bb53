/-
  The walks of a parameter's value (media's scanner), of a parameter (the reference).
-/
import Derived.Test.YtjemlaiciacnpaaMeG
import Derived.Test.YtjemlaiciacnpaaMeV
namespace Go.Proofs.Ytjemlaiciacnpaa
open Go.RowKit
theorem takeWhile_ne {P : Int → Bool} {c : Int} {r : List Int} (h : P c = true) : (c :: r).takeWhile P ≠ [] := by rw [List.takeWhile_cons, h]; simp
theorem strOfNums_ne (l : List Int) (h : l ≠ []) : strOfNums l ≠ ⟨#[]⟩ := by
  intro e
  have h2 := congrArg (fun b : ByteArray => b.data.toList.length) e
  unfold strOfNums at h2
  simp at h2
  exact h h2
theorem isEmpty_no (b : ByteArray) (h : b ≠ ⟨#[]⟩) : b.toList.isEmpty = false := by
  rw [ByteArray.toList_eq]
  cases hd : b.data.toList with
  | nil =>
    refine absurd ?_ h
    obtain ⟨d⟩ := b
    have : d = #[] := by simpa using hd
    rw [this]
  | cons x xs => rfl
theorem strOfNums_nil : strOfNums [] = ⟨#[]⟩ := rfl
set_option maxRecDepth 100000 in
theorem scan_value (p : Nat) (s : ByteArray) (k : Nat) (w : World) (hsc : ScanAt w p s k) (hk0 : k ≤ s.size) (hs : s.size ≤ 1000000) :
    Calls Try.prog 24 #[.pointer (some ⟨p, 0, none⟩)] w fun e w' => QOut w w' p s (valN ((nums s).drop k)) e := by
  cases ha : atB s k 34 with
  | true =>
    have hlt : k < s.size := by
      rcases Nat.lt_or_ge k s.size with h | h
      · exact h
      · rw [atB_end h] at ha; cases ha
    have hv : valN ((nums s).drop k) = quoA [] ((nums s).drop (k + 1)) := by
      have h1 := atB_lt hlt 34
      rw [ha] at h1
      have h2 : (s[k].toNat : Int) = 34 := by simpa using h1.symm
      rw [nums_drop s k hlt, h2]
      rfl
    rw [hv]
    have HA := Lib.hid ha
    clear ha hv
    go_enter Try.func24, Try.ntmps24
    go_wp2_with fail
    refine (scan_is 34 p s k _ hsc hk0 (by omega)).mono ?_
    rw [HA.out]
    rintro e w1 ⟨rfl, h1, h2⟩
    rw [if_pos rfl] at h1
    go_wp2_with fail
    refine (scan_quoted p s (k + 1) _ h1 (by omega) hs).mono ?_
    rintro e w2 ⟨t, j, rfl, h3, h4, h5, h6⟩
    go_wp2
    go_ret2
    exact ⟨t, j, rfl, h3, h4, gr_trans h2 h5, h6⟩
  | false =>
    have HA := Lib.hid ha
    obtain ⟨T, hT⟩ : ∃ T, ((nums s).drop k).takeWhile isTok = T := ⟨_, rfl⟩
    have hD := drop_span isTok s k
    have hE := spanN_le isTok s k hk0
    have hv : valN ((nums s).drop k) = if T = [] then none else some (T, ((nums s).drop k).dropWhile isTok) := by
      by_cases hlt : k < s.size
      · have h1 := atB_lt hlt 34
        rw [ha] at h1
        have h2 : (s[k].toNat : Int) ≠ 34 := by simpa using h1.symm
        rw [nums_drop s k hlt] at hT ⊢
        unfold valN
        simp only
        rw [if_neg h2]
        cases hb : isTok (s[k].toNat : Int) with
        | true => rw [if_pos rfl, ← hT, if_neg (takeWhile_ne hb)]
        | false =>
          rw [List.takeWhile_cons, hb] at hT
          rw [← hT]
          rfl
      · rw [nums_drop_end s k (by omega)] at hT ⊢
        rw [← hT]
        rfl
    rw [hv]
    clear hv ha
    by_cases hn : T = []
    · rw [if_pos hn]
      subst hn
      go_enter Try.func24, Try.ntmps24
      go_wp2_with fail
      refine (scan_is 34 p s k _ hsc hk0 (by omega)).mono ?_
      rw [HA.out]
      rintro e w1 ⟨rfl, h1, h2⟩
      rw [if_neg (by decide)] at h1
      go_wp2_with fail
      refine (scan_token p s k _ h1 hk0 (by omega)).mono ?_
      rw [hT, strOfNums_nil]
      rintro e w2 ⟨rfl, h3, h4⟩
      go_wp2
      go_ret2
      exact ⟨_, _, rfl, h3, hE, gr_trans h2 h4, by rintro v r e; cases e⟩
    · have h5 := strOfNums_ne T hn
      obtain ⟨t, ht⟩ : ∃ t, strOfNums T = t := ⟨_, rfl⟩
      have HTT := Lib.hid ht
      rw [if_neg hn]
      rw [ht] at h5
      have h6 := isEmpty_no t h5
      clear ht hn h5
      go_enter Try.func24, Try.ntmps24
      go_wp2_with fail
      refine (scan_is 34 p s k _ hsc hk0 (by omega)).mono ?_
      rw [HA.out]
      rintro e w1 ⟨rfl, h1, h2⟩
      rw [if_neg (by decide)] at h1
      go_wp2_with fail
      refine (scan_token p s k _ h1 hk0 (by omega)).mono ?_
      rw [hT, HTT.out]
      rintro e w2 ⟨rfl, h3, h4⟩
      go_wp2
      go_ret2
      exact ⟨_, _, rfl, h3, hE, gr_trans h2 h4, by rintro v r e; cases e; exact ⟨HTT.out.symm, hD.symm⟩⟩
theorem quoA_suf : ∀ (n : Nat) (acc l v u : List Int), l.length ≤ n → quoA acc l = some (v, u) → ∃ m, u = l.drop m ∧ m ≤ l.length
  | _, acc, [], v, u, _, h => by rw [quoA_nil] at h; cases h
  | 0, acc, c :: r, v, u, hn, _ => by simp at hn
  | n + 1, acc, c :: r, v, u, hn, h => by
    simp only [List.length_cons] at hn ⊢
    by_cases e1 : c = 34
    · subst e1
      rw [quoA_quote] at h
      cases h
      exact ⟨1, rfl, by omega⟩
    · by_cases e2 : c = 92
      · subst e2
        cases r with
        | nil => cases h
        | cons d r =>
          simp only [List.length_cons] at hn ⊢
          cases he : isEsc d with
          | false => rw [quoA_esc_no he] at h; cases h
          | true =>
            rw [quoA_esc he] at h
            obtain ⟨m, h1, h2⟩ := quoA_suf n _ r v u (by omega) h
            exact ⟨m + 2, by rw [h1]; rfl, by omega⟩
      · cases hi : isQt c with
        | false => rw [quoA_out hi e1 e2] at h; cases h
        | true =>
          rw [quoA_in hi] at h
          obtain ⟨m, h1, h2⟩ := quoA_suf n _ r v u (by omega) h
          exact ⟨m + 1, by rw [h1]; rfl, by omega⟩
/-- what a parameter comes to in the reference. -/
def POut (w w' : World) (s : ByteArray) (R : Option ((List Int × List Int) × List Int)) (e : Ending) : Prop :=
  ∃ (a b : ByteArray) (n : Nat), e = .returned (.tuple #[.agg #[.string a, .string b], .int .i64 n, .bool R.isSome]) ∧ Below w.heap.size w w' ∧
    (∀ nm v u, R = some ((nm, v), u) → a = strOfNums nm ∧ b = strOfNums v ∧ n ≤ s.size ∧ u = (nums s).drop n)
set_option maxRecDepth 100000 in
set_option maxHeartbeats 4000000 in
theorem ref06_param (s : ByteArray) (k : Nat) (w : World) (hk0 : k < s.size) (hs : s.size ≤ 1000000) :
    Calls Try.prog 27 #[.string s, .int .i64 k] w fun e w' => POut w w' s (parN ((nums s).drop k)) e := by
  have hD := drop_span isTok s k
  have hE := spanN_le isTok s k (by omega)
  have hX := nums_extract_span isTok s k
  have hZ := span_zero (P := isTok) (s := s) (k := k)
  have hT0 : k ≤ k + spanN isTok s k := Nat.le_add_right _ _
  obtain ⟨T, hT⟩ : ∃ T, ((nums s).drop k).takeWhile isTok = T := ⟨_, rfl⟩
  have HTK := ref06_token s k
  obtain ⟨E, hEE⟩ : ∃ E, k + spanN isTok s k = E := ⟨_, rfl⟩
  rw [hEE] at hD hE hX hT0
  rw [hT] at hX hZ
  by_cases hT1 : T = []
  · have hsp := hZ.2 hT1
    have q1 : ((E : Int) == (k : Int)) = true := by simp; omega
    rw [parN_no (hT.trans hT1)]
    clear hZ hD
    go_enter Try.func27, Try.ntmps27
    go_wp2_with (go_at_call 26; refine (HTK _ (by omega) (by omega)).mono ?_; rw [hEE]; rintro e w1 ⟨rfl, rfl⟩)
    refine bodyPost_ret (results_cell3 rfl _ _ _ _ _ rfl (BlkAt.new w _ _) Try.underlying47 rfl (by kernel_rfl)) rfl ?_
    exact ⟨_, _, 0, rfl, (Below.refl _ w).alloc (Nat.le_refl _) _, by rintro nm v u e; cases e⟩
  · have q1 : ((E : Int) == (k : Int)) = false := by
      have : spanN isTok s k ≠ 0 := fun e => hT1 (hZ.1 e)
      simp
      omega
    clear hZ hT0
    by_cases hlt : E < s.size
    · have hge := decide_eq_false (show ¬ (s.size : Int) ≤ (E : Int) by omega)
      have hdr := nums_drop s E hlt
      obtain ⟨c, hc⟩ : ∃ c, s[E].toNat = c := ⟨_, rfl⟩
      have hidx := index_str s E hlt (c : Int) E (by rw [hc]) rfl
      rw [hdr, hc] at hD
      clear hdr hc
      by_cases hc61 : (c : Int) = 61
      · have q2 : ((c : Int) != 61) = false := by simp [hc61]
        rw [hc61] at hD
        obtain ⟨V, hV⟩ : ∃ V, valN ((nums s).drop (E + 1)) = V := ⟨_, rfl⟩
        rw [parN_eq (by rw [hT]; exact hT1) hD.symm, hT, hV]
        clear hc61 hD
        go_enter Try.func27, Try.ntmps27
        have hn1 := BlkAt.new w #[.string ⟨#[]⟩, .string ⟨#[]⟩] 47
        have hb1 := (Below.refl w.heap.size w).alloc (Nat.le_refl _) (.cells #[.string ⟨#[]⟩, .string ⟨#[]⟩] 47)
        go_wp2_with fail
        generalize w.alloc (.cells #[.string ⟨#[]⟩, .string ⟨#[]⟩] 47) = w1 at hn1 hb1 ⊢
        go_wp2_with (go_at_call 26; refine (HTK _ (by omega) (by omega)).mono ?_; rw [hEE]; rintro e w1 ⟨rfl, rfl⟩)
        refine (ref06_Lower (s.extract k E) _ (by rw [ByteArray.size_extract]; omega)).mono ?_
        rw [hX]
        rintro e w2 ⟨rfl, hb2⟩
        have hs1 := hn1.lt
        have hn2 := hn1.below hb2 hs1
        have hb12 := hb1.trans (hb2.mono hb1.size)
        have hs2 := hn2.lt
        obtain ⟨b4, hb4⟩ : ∃ b4, w.heap.size = b4 := ⟨_, rfl⟩
        obtain ⟨b8, hb8⟩ : ∃ b8, w2.heap.size = b8 := ⟨_, rfl⟩
        obtain ⟨a, ha⟩ : ∃ a, strOfNums (lowL T) = a := ⟨_, rfl⟩
        have HAA := Lib.hid ha
        have hn3 := BlkAt.new w2 #[.string a, .string ⟨#[]⟩] 47
        have hn2' := hn2.alloc (.cells #[.string a, .string ⟨#[]⟩] 47)
        have hb3 := hb12.alloc (by omega) (.cells #[.string a, .string ⟨#[]⟩] 47)
        have hne : b4 ≠ b8 := by omega
        have hlt48 : b4 ≤ b8 := by omega
        rw [ha, hb4]
        rw [hb8] at hn3
        rw [hb4] at hn2' hb3
        have hbw : w.heap.size = b4 := hb4
        have HB4 := Lib.hid hb4
        clear ha hn1 hb1 hb2 hn2 hb12 hs1 hs2 hbw
        have hv0 : E + 1 ≤ s.size := hlt
        cases hat : atB s (E + 1) 34 with
        | true =>
          have hlt2 : E + 1 < s.size := by
            rcases Nat.lt_or_ge (E + 1) s.size with h | h
            · exact h
            · rw [atB_end h] at hat; cases hat
          have h1 := atB_lt hlt2 34
          rw [hat] at h1
          obtain ⟨d, hd⟩ : ∃ d, s[E + 1].toNat = d := ⟨_, rfl⟩
          have hidx2 := index_str s (E + 1) hlt2 (d : Int) ((E : Int) + 1) (by rw [hd]) (by omega)
          have hdr2 := nums_drop s (E + 1) hlt2
          rw [hd] at h1 hdr2
          have hd34 : (d : Int) = 34 := by simpa using h1.symm
          have hq34 : ((d : Int) == 34) = true := h1.symm
          rw [hdr2, hd34, valN_quote] at hV
          have HV := Lib.hid hV
          clear hdr2 hd34 h1 hd hV
          have hl2 := decide_eq_true (show (E : Int) + 1 < (s.size : Int) by omega)
          go_wp2_with fail
          generalize w2.alloc (.cells #[.string a, .string ⟨#[]⟩] 47) = w3 at hn3 hn2' hb3 ⊢
          rw [show ((E : Int) + 1) = ((E + 1 : Nat) : Int) by omega]
          refine (ref06_quoted s (E + 1) _ hlt2 hs).mono ?_
          rw [HV.out]
          rintro e w4 ⟨rfl, hb4'⟩
          have hl3 := hn3.lt
          have hl4 := hn2'.lt
          have hn5 := hn3.below hb4' hl3
          have hn6 := hn2'.below hb4' hl4
          have hb5 := hb3.trans (hb4'.mono (Nat.le_of_lt hl4))
          clear hn3 hn2' hb3 hb4' hl3 hl4
          obtain ⟨v, hv⟩ : ∃ v, quoS V = v := ⟨_, rfl⟩
          obtain ⟨n, hnn⟩ : ∃ n, quoE s V = n := ⟨_, rfl⟩
          have hc0 := hn5.cell 0 rfl
          have hc1 := hn5.cell 1 rfl
          have hc2 := hn6.cell 0 rfl
          have hc3 := hn6.cell 1 rfl
          have hf0 := hn5.free 0
          have hf1 := hn5.free 1
          have hf2 := hn6.free 0
          have hf3 := hn6.free 1
          have hr := ((hn6.far hne 1 (.string v)).set 0 (.string a)).set 1 (.string v)
          have hbr := ((hb5.setCell (p := ⟨b8, 1, none⟩) hlt48 (.string v)).setCell (p := ⟨b4, 0, none⟩) (Nat.le_refl _) (.string a)).setCell (p := ⟨b4, 1, none⟩) (Nat.le_refl _) (.string v)
          rw [hv, hnn]
          have hv' := Lib.hid hv
          have hnn' := Lib.hid hnn
          clear hv hnn hn5 hn6 hb5
          have HBR := Lib.hid hbr
          have HRR := Lib.hid hr
          clear hbr hr
          go_wp2
          refine bodyPost_ret (results_cell3 rfl _ _ _ _ _ rfl HRR.out Try.underlying47 rfl (by kernel_rfl)) rfl ?_
          refine ⟨a, v, n, by cases V <;> rfl, by rw [HB4.out]; exact HBR.out, ?_⟩
          rintro nm v' u e
          cases V with
          | none => cases e
          | some vu =>
            obtain ⟨x, y⟩ := vu
            simp only [Option.map_some, Option.some.injEq, Prod.mk.injEq] at e
            obtain ⟨⟨rfl, rfl⟩, rfl⟩ := e
            obtain ⟨m, h7, h8⟩ := quoA_suf _ _ _ _ _ (Nat.le_refl _) HV.out
            rw [List.drop_drop] at h7
            rw [List.length_drop, nums_length] at h8
            have h9 := hnn'.out
            rw [h7, quoE_drop s x _ (by omega)] at h9
            exact ⟨HAA.out.symm, hv'.out.symm, by omega, by rw [h7, ← h9]⟩
        | false =>
          have hhd : ((nums s).drop (E + 1)).head? ≠ some 34 := by
            intro h
            unfold atB at hat
            rw [h] at hat
            cases hat
          rw [valN_tok hhd] at hV
          have hF0 := spanN_le isTok s (E + 1) hv0
          have hF1 : E + 1 ≤ E + 1 + spanN isTok s (E + 1) := Nat.le_add_right _ _
          have hF2 := drop_span isTok s (E + 1)
          have hF3 := extract_span isTok s (E + 1)
          have hF4 := span_zero (P := isTok) (s := s) (k := E + 1)
          have HTK2 := ref06_token s (E + 1)
          obtain ⟨F, hF⟩ : ∃ F, E + 1 + spanN isTok s (E + 1) = F := ⟨_, rfl⟩
          rw [hF] at hF0 hF1 hF2 hF3 HTK2
          obtain ⟨T2, hT2⟩ : ∃ T2, ((nums s).drop (E + 1)).takeWhile isTok = T2 := ⟨_, rfl⟩
          rw [hT2] at hF3 hF4 hV
          obtain ⟨vb, hvb⟩ : ∃ vb, V.isSome = vb := ⟨_, rfl⟩
          have hgt : decide ((E : Int) + 1 < (F : Int)) = vb := by
            rw [← hvb, ← hV]
            by_cases h : T2 = []
            · have := hF4.2 h
              rw [if_pos h]
              exact decide_eq_false (by omega)
            · have : spanN isTok s (E + 1) ≠ 0 := fun e => h (hF4.1 e)
              rw [if_neg h]
              exact decide_eq_true (by omega)
          have HGT := Lib.hid hgt
          have HVB := Lib.hid hvb
          have HV := Lib.hid hV
          rw [show ((E + 1 : Nat) : Int) = (E : Int) + 1 by omega] at HTK2
          obtain ⟨v, hv⟩ : ∃ v, s.extract (E + 1) F = v := ⟨_, rfl⟩
          have hv' := Lib.hid (hv.symm.trans hF3)
          clear hV hF4 hhd hgt hvb hF hF3
          have tl : ∀ w', Below b4 w w' → BlkAt w' b4 #[.string a, .string v] → POut w w' s (V.map fun vu => ((lowL T, vu.1), vu.2)) (.returned (.tuple #[.agg #[.string a, .string v], .int .i64 F, .bool vb])) := by
            intro w' h1 _
            refine ⟨a, v, F, by rw [← HVB.out]; cases V <;> rfl, by rw [HB4.out]; exact h1, ?_⟩
            rintro nm v' u e
            have h2 := HV.out
            by_cases h : T2 = []
            · rw [if_pos h] at h2
              rw [← h2] at e
              cases e
            · rw [if_neg h] at h2
              rw [← h2] at e
              simp only [Option.map_some, Option.some.injEq, Prod.mk.injEq] at e
              obtain ⟨⟨rfl, rfl⟩, rfl⟩ := e
              exact ⟨HAA.out.symm, hv'.out, hF0, hF2.symm⟩
          have HTL := Lib.hid tl
          clear tl
          by_cases hlt2 : E + 1 < s.size
          · have h1 := atB_lt hlt2 34
            rw [hat] at h1
            obtain ⟨d, hd⟩ : ∃ d, s[E + 1].toNat = d := ⟨_, rfl⟩
            have hidx2 := index_str s (E + 1) hlt2 (d : Int) ((E : Int) + 1) (by rw [hd]) (by omega)
            rw [hd] at h1
            have hq34 : ((d : Int) == 34) = false := h1.symm
            clear h1 hd
            have hl2 := decide_eq_true (show (E : Int) + 1 < (s.size : Int) by omega)
            go_wp2_with fail
            generalize w2.alloc (.cells #[.string a, .string ⟨#[]⟩] 47) = w3 at hn3 hn2' hb3 ⊢
            have hc0 := hn3.cell 0 rfl
            have hc1 := hn3.cell 1 rfl
            have hc2 := hn2'.cell 0 rfl
            have hc3 := hn2'.cell 1 rfl
            have hf0 := hn3.free 0
            have hf1 := hn3.free 1
            have hf2 := hn2'.free 0
            have hf3 := hn2'.free 1
            have HRR := Lib.hid (((hn2'.far hne 1 (.string v)).set 0 (.string a)).set 1 (.string v))
            have HBR := Lib.hid (((hb3.setCell (p := ⟨b8, 1, none⟩) hlt48 (.string v)).setCell (p := ⟨b4, 0, none⟩) (Nat.le_refl _) (.string a)).setCell (p := ⟨b4, 1, none⟩) (Nat.le_refl _) (.string v))
            clear hn3 hn2' hb3
            have HG := HGT.out
            go_wp2_with (go_at_call 26; refine (HTK2 _ hv0 (by omega)).mono ?_; rintro e w1 ⟨rfl, rfl⟩)
            refine bodyPost_ret (results_cell3 rfl _ _ _ _ _ rfl HRR.out Try.underlying47 rfl (by kernel_rfl)) rfl ?_
            exact HTL.out _ HBR.out HRR.out
          · have hl2 := decide_eq_false (show ¬ (E : Int) + 1 < (s.size : Int) by omega)
            go_wp2_with fail
            generalize w2.alloc (.cells #[.string a, .string ⟨#[]⟩] 47) = w3 at hn3 hn2' hb3 ⊢
            have hc0 := hn3.cell 0 rfl
            have hc1 := hn3.cell 1 rfl
            have hc2 := hn2'.cell 0 rfl
            have hc3 := hn2'.cell 1 rfl
            have hf0 := hn3.free 0
            have hf1 := hn3.free 1
            have hf2 := hn2'.free 0
            have hf3 := hn2'.free 1
            have HRR := Lib.hid (((hn2'.far hne 1 (.string v)).set 0 (.string a)).set 1 (.string v))
            have HBR := Lib.hid (((hb3.setCell (p := ⟨b8, 1, none⟩) hlt48 (.string v)).setCell (p := ⟨b4, 0, none⟩) (Nat.le_refl _) (.string a)).setCell (p := ⟨b4, 1, none⟩) (Nat.le_refl _) (.string v))
            clear hn3 hn2' hb3
            have HG := HGT.out
            go_wp2_with (go_at_call 26; refine (HTK2 _ hv0 (by omega)).mono ?_; rintro e w1 ⟨rfl, rfl⟩)
            refine bodyPost_ret (results_cell3 rfl _ _ _ _ _ rfl HRR.out Try.underlying47 rfl (by kernel_rfl)) rfl ?_
            exact HTL.out _ HBR.out HRR.out
      · have q2 : ((c : Int) != 61) = true := by simpa using hc61
        rw [parN_other hD.symm hc61]
        clear hc61 hD
        go_enter Try.func27, Try.ntmps27
        go_wp2_with (go_at_call 26; refine (HTK _ (by omega) (by omega)).mono ?_; rw [hEE]; rintro e w1 ⟨rfl, rfl⟩)
        refine bodyPost_ret (results_cell3 rfl _ _ _ _ _ rfl (BlkAt.new w _ _) Try.underlying47 rfl (by kernel_rfl)) rfl ?_
        exact ⟨_, _, 0, rfl, (Below.refl _ w).alloc (Nat.le_refl _) _, by rintro nm v u e; cases e⟩
    · have hge := decide_eq_true (show (s.size : Int) ≤ (E : Int) by omega)
      rw [nums_drop_end s E (by omega)] at hD
      rw [parN_end hD.symm]
      clear hD
      go_enter Try.func27, Try.ntmps27
      go_wp2_with (go_at_call 26; refine (HTK _ (by omega) (by omega)).mono ?_; rw [hEE]; rintro e w1 ⟨rfl, rfl⟩)
      refine bodyPost_ret (results_cell3 rfl _ _ _ _ _ rfl (BlkAt.new w _ _) Try.underlying47 rfl (by kernel_rfl)) rfl ?_
      exact ⟨_, _, 0, rfl, (Below.refl _ w).alloc (Nat.le_refl _) _, by rintro nm v u e; cases e⟩
end Go.Proofs.Ytjemlaiciacnpaa
