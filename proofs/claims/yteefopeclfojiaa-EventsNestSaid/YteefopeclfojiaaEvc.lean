/-
  Layer 16: the law EventsWrap.
-/
import Derived.Test.YteefopeclfojiaaEvb
namespace Go.Proofs.Yteefopeclfojiaa
open Go.RowKit
theorem emB_nums {s : ByteArray} (h : emB s = true) : nums s = [] := by
  unfold emB at h
  rw [ByteArray.toList_eq] at h
  unfold nums
  have : s.data.toList = [] := by simpa using h
  rw [this]
  rfl
theorem fld_end {e : Evt} (h : fldB e = true) (hk : e.k = 1) : nums e.tx = [] := by
  unfold fldB at h
  rw [if_neg (by omega), if_pos hk] at h
  simp only [Bool.and_eq_true] at h
  exact emB_nums h.2
theorem fld_start {e : Evt} (h : fldB e = true) (hk : e.k = 0) : nums e.tx = [] := by
  unfold fldB at h
  rw [if_neg (by omega), if_neg (by omega), if_pos hk] at h
  simp only [Bool.and_eq_true] at h
  exact emB_nums h.2
theorem atP_of {es : List Evt} {g : Gr} (h : growP es = some g) {p j : Nat} (hp : endO g p = some j) : atP es p = some g := by
  obtain ⟨h1, h2, x, y, hx, -, hk, -⟩ := (growP_nest h).1.lt p j hp
  unfold atP
  rw [if_pos ⟨by omega, by omega, by rw [Int.toNat_natCast, hx, ← hk]; rfl⟩, h]
theorem endN_of {g : Gr} {p j : Nat} (h : endO g p = some j) : endN g p = j := by
  unfold endO at h
  unfold endN
  split at h
  · rename_i hh
    rw [hh]
    injection h
  · cases h
theorem textP_of {es : List Evt} {g : Gr} (h : growP es = some g) {p j : Nat} (hp : endO g p = some j) : textP es p = txsL ((es.drop p).take (j - p)) := by
  unfold textP
  rw [atP_of h hp]
  simp only [Int.toNat_natCast, endN_of hp]
theorem kidsP_of {es : List Evt} {g : Gr} (h : growP es = some g) {p j : Nat} (hp : endO g p = some j) : kidsP es p = kidsL (endO g) p j := by
  unfold kidsP
  rw [atP_of h hp]
  simp only [Int.toNat_natCast, endN_of hp]
theorem ownP_of {es : List Evt} {g : Gr} (h : growP es = some g) {p j : Nat} (hp : endO g p = some j) : ownP es p = ownL es (endO g) (p + 1) (kidsL (endO g) p j) ++ segL es (fromK (endO g) (p + 1) (kidsL (endO g) p j)) j := by
  unfold ownP
  rw [atP_of h hp, kidsP_of h hp]
  simp only [Int.toNat_natCast, endN_of hp]
theorem wrap_kids {es : List Evt} {g' : Gr} {n : ByteArray × ByteArray} (h : growP (wrapL n es) = some g') (h0 : endO g' 0 = some (es.length + 1)) (h1 : endO g' 1 = some es.length) (hl : 0 < es.length) : kidsP (wrapL n es) (0 : Int) = [1] := by
  have := kidsP_of h h0
  rw [show ((0 : Nat) : Int) = 0 from rfl] at this
  rw [this]
  unfold kidsL
  rw [kidF, if_pos (by omega), show (0 + 1 : Nat) = 1 from rfl, h1]
  simp only
  rw [kidF_end _ _ _ _ (Nat.le_refl _)]
theorem wrap_text {es : List Evt} {g g' : Gr} {n : ByteArray × ByteArray} (h : growP es = some g) (h' : growP (wrapL n es) = some g') (h0 : endO g' 0 = some (es.length + 1)) : textP (wrapL n es) (0 : Int) = txsL es ∧ textP es (0 : Int) = txsL es := by
  obtain ⟨h1, h2⟩ := growP_last h
  have t1 := textP_of h' h0
  have t2 := textP_of h h1
  rw [show ((0 : Nat) : Int) = 0 from rfl] at t1 t2
  rw [t1, t2]
  constructor
  · unfold wrapL
    rw [List.drop_zero, Nat.sub_zero, List.take_succ_cons, List.take_left']
    · rfl
    · rfl
  · obtain ⟨-, -, x, y, hx, hy, -, hk, -⟩ := (growP_nest h).1.lt 0 _ h1
    rw [List.drop_zero, Nat.sub_zero]
    have h3 := fld_end (growP_fld h y (List.mem_of_getElem? hy)) hk
    have h4 := txsL_snoc es (es.length - 1) y hy
    rw [show es.length - 1 + 1 = es.length by omega, List.take_length, h3, List.append_nil] at h4
    exact h4.symm
theorem wrap_own {es : List Evt} {g' : Gr} {n : ByteArray × ByteArray} (h : growP (wrapL n es) = some g') (h0 : endO g' 0 = some (es.length + 1)) (h1 : endO g' 1 = some es.length) (hl : 0 < es.length) : ownP (wrapL n es) (0 : Int) = [] := by
  have t1 := ownP_of h h0
  have t2 := wrap_kids h h0 h1 hl
  have t3 := kidsP_of h h0
  rw [show ((0 : Nat) : Int) = 0 from rfl] at t1 t3
  rw [t1, ← t3, t2]
  have e1 : fromK (endO g') (0 + 1) [1] = es.length + 1 := by unfold fromK; simp [h1]
  rw [e1]
  simp [ownL, segL, txsL]
theorem wrap_len (n : ByteArray × ByteArray) (es : List Evt) : (wrapL n es).length = es.length + 2 := by unfold wrapL; simp
theorem wrap_drop (n : ByteArray × ByteArray) (es : List Evt) : (wrapL n es).drop 1 = es ++ [⟨1, n, [], ⟨#[]⟩⟩] := rfl
theorem deep_le {es : List Evt} : ∀ (l : List Evt) (i : Nat) (g gf : Gr), grun es i l g = some gf → g.deep ≤ i → g.op.length ≤ i → gf.deep ≤ i + l.length
  | [], i, g, gf, h, h1, _ => by cases h; exact h1
  | x :: r, i, g, gf, h, h1, h2 => by
    rw [grun] at h
    obtain ⟨g1, h3, h4⟩ := Option.bind_eq_some_iff.1 h
    obtain ⟨op, ends, deep⟩ := g
    simp only at h1 h2
    have h5 : g1.deep ≤ i + 1 ∧ g1.op.length ≤ i + 1 := by
      obtain ⟨-, -, h5 | h5 | ⟨-, t, ht, -, h5⟩⟩ := gstep_iff.1 h3
      · rw [h5.2]
        simp only [List.length_append, List.length_singleton]
        omega
      · rw [h5.2.2]
        simp only
        omega
      · rw [h5]
        simp only [List.length_dropLast]
        omega
    have := deep_le r (i + 1) g1 gf h4 h5.1 h5.2
    rw [List.length_cons]
    omega
theorem growP_deep {es : List Evt} {g : Gr} (h : growP es = some g) : g.deep ≤ es.length := by
  have := deep_le es 0 _ _ (growP_run h).1 (Nat.le_refl _) (Nat.le_refl _)
  omega
theorem strOfNums_nil : strOfNums [] = ⟨#[]⟩ := by simp [strOfNums]
theorem txsL_wrap (n : ByteArray × ByteArray) (es : List Evt) : txsL (wrapL n es) = txsL es := by
  have h : nums (⟨#[]⟩ : ByteArray) = [] := by unfold nums; rfl
  unfold wrapL txsL
  rw [List.flatMap_cons, List.flatMap_append]
  simp [h]
theorem wrap_ats {n : ByteArray × ByteArray} {es : List Evt} {M : Nat} (h : ∀ e ∈ es, e.at_.length ≤ M) : ∀ e ∈ wrapL n es, e.at_.length ≤ M := fun e he => by
  unfold wrapL at he
  rcases List.mem_cons.1 he with rfl | he
  · exact Nat.zero_le _
  · rcases List.mem_append.1 he with he | he
    · exact h e he
    · rw [List.mem_singleton.1 he]
      exact Nat.zero_le _
set_option maxRecDepth 100000 in
set_option maxHeartbeats 16000000 in
theorem law_EventsWrap (v : Value) (es : List Evt) (n : ByteArray × ByteArray) (w : World) (hl : EvsIn w v es) (hnm : NmIn n) :
    Calls Try.prog 3 #[v, .agg #[.string n.1, .string n.2]] w fun r w' => r = .returned (.bool true) ∧ Below w.heap.size w w' := by
  have hR := hl.r
  have hZ := hl.small
  have hn := hl.at_.n
  obtain ⟨avs, ⟨a, cap, rfl, -⟩, -⟩ := id hR
  obtain ⟨n1, n2⟩ := n
  have z1 : n1.size ≤ 140737488351232 := hnm.a
  have z2 : n2.size ≤ 140737488351232 := hnm.b
  simp only
  have hb1 := (Below.refl w.heap.size w).alloc (Nat.le_refl _) (.cells #[.string n1, .string n2] 24)
  have bX := BlkAt.new w #[.string n1, .string n2] 24
  have G1 := Lib.hid (fun (W : World) (hW : Below w.heap.size w W) => ref16_Great w.heap.size es _ W (hR.below hW (Nat.le_refl _)) hW.size hn hZ)
  have HW := Lib.hid law_wakes
  have HL := Lib.hid hl
  have HL2 := HL
  obtain ⟨m, hmm⟩ : ∃ m, es.length = m := ⟨_, rfl⟩
  have HM := Lib.hid hmm
  rw [hmm] at G1 hR ⊢
  have HR := Lib.hid hR
  clear hn hZ hl hR hnm
  go_enter Try.func3, Try.ntmps3
  go_wp2_with fail
  refine (G1.out _ hb1).mono ?_
  rintro r w2 ⟨b1, rfl, hg1, hb2⟩
  replace bX := bX.below hb2 bX.lt
  replace hb1 := bt hb1 hb2
  clear hb2 G1
  have wk : ∀ W, Below w.heap.size w W → Calls Try.prog 17 #[] W fun r w' => r = .returned (.bool true) ∧ Below w.heap.size w w' := fun W hW => (HW.out W).mono fun r w' h => ⟨h.1, bt hW h.2⟩
  have WK := Lib.hid wk
  clear wk
  cases b1 with
  | true =>
    clear hg1 HL HR
    go_wp2_with fail
    refine (WK.out _ hb1).mono ?_
    rintro r w9 ⟨rfl, hb9⟩
    go_wp2_with fail
    go_ret
    exact ⟨rfl, hb9⟩
  | false =>
    have ok := hg1 rfl
    have OK := Lib.hid ok
    have hm300 : m ≤ 300 := by rw [← HM.out]; exact ok.len
    clear hg1 hmm ok
    have f0 : w2.cell? ⟨w.heap.size, 0, none⟩ = some (Value.string n1) := bX.cell 0 rfl
    have f1 : w2.cell? ⟨w.heap.size, 1, none⟩ = some (Value.string n2) := bX.cell 1 rfl
    cases hem : emB n2 with
    | true =>
      have q0 : (n2.toList == []) = true := by rw [emB_eq]; exact hem
      clear hem HR HL
      go_wp2_with fail
      refine (WK.out _ hb1).mono ?_
      rintro r w9 ⟨rfl, hb9⟩
      go_wp2_with fail
      go_ret
      exact ⟨rfl, hb9⟩
    | false =>
      have q0 : (n2.toList == []) = false := by rw [emB_eq]; exact hem
      have HEM := Lib.hid hem
      clear hem
      by_cases h200 : n1.size + n2.size ≤ 200
      · have hd0 := decide_eq_false (show ¬ (200 : Int) < (n1.size : Int) + (n2.size : Int) by omega)
        have K1 := Lib.hid (fun (W : World) (hW : Below w.heap.size w W) => events_Whole w.heap.size es (.slice a m cap) W (HR.out.below hW (Nat.le_refl _)) hW.size (by rw [HM.out]; omega) (fun e he => by have := OK.out.ats e he; omega))
        go_wp2_with fail
        refine (K1.out _ hb1).mono ?_
        rintro r w3 ⟨rfl, hb3⟩
        replace bX := bX.below hb3 bX.lt
        replace hb1 := bt hb1 hb3
        clear hb3 f0 f1
        cases hG : growP es with
        | none =>
          clear HR HL K1
          go_wp2_with fail
          refine (WK.out _ hb1).mono ?_
          rintro r w9 ⟨rfl, hb9⟩
          go_wp2_with fail
          go_ret
          exact ⟨rfl, hb9⟩
        | some g =>
          have HG := Lib.hid hG
          clear hG
          have f0 : w3.cell? ⟨w.heap.size, 0, none⟩ = some (Value.string n1) := bX.cell 0 rfl
          have f1 : w3.cell? ⟨w.heap.size, 1, none⟩ = some (Value.string n2) := bX.cell 1 rfl
          have hbs := hb1.size
          have hO0 := OwnE.lit (B := w.heap.size) (base := w3.heap.size) (w := w3) (es := [⟨0, (n1, n2), [], ⟨#[]⟩⟩]) [.slice none 0 0] #[.int .i8 0, .string n1, .string n2, .slice none 0 0, .string ⟨#[]⟩] rfl ⟨nilC _ _, trivial⟩ (Nat.le_refl _) 1 rfl (by decide)
          have hbL := (Below.refl w3.heap.size w3).alloc (Nat.le_refl _) (.cells #[.int .i8 0, .string n1, .string n2, .slice none 0 0, .string ⟨#[]⟩] 30)
          obtain ⟨v1, w4, hr1, hO1, hb4⟩ := hO0.apps (HR.out.below (hb1.trans (hbL.mono hbs)) (Nat.le_refl _)) hbs hbL.size (by rw [HM.out]; simp; omega)
          have hb34 := hbL.trans hb4
          have bX4 := bX.below hb34 bX.lt
          have hbs4 := hb34.size
          have hlen1 : ([⟨0, (n1, n2), [], ⟨#[]⟩⟩] ++ es : List Evt).length = m + 1 := by rw [List.length_append, HM.out]; simp; omega
          obtain ⟨v2, w5, hr2, hO2, hb5⟩ := hO1.app1 ⟨1, (n1, n2), [], ⟨#[]⟩⟩ (.slice none 0 0) (nilC _ _) hbs hbs4 (by rw [hlen1]; omega)
          obtain ⟨y1, l1, c1, hv1⟩ : ∃ a l c, v1 = .slice a l c := by obtain ⟨avs, h1, -⟩ := hO1; exact own_slice h1
          obtain ⟨avs2, hrow2, hats2⟩ := id hO2
          have hw2 : ([⟨0, (n1, n2), [], ⟨#[]⟩⟩] ++ es ++ [⟨1, (n1, n2), [], ⟨#[]⟩⟩] : List Evt) = wrapL (n1, n2) es := rfl
          rw [hw2] at hO2 hrow2 hats2
          obtain ⟨gb, cp2, hv2, hcp2, hgb⟩ : ∃ g cp, v2 = .slice (some ⟨g, 0, none⟩) (m + 2) cp ∧ m + 2 ≤ cp ∧ g < w5.heap.size := by
            have hwl := wrap_len (n1, n2) es
            rw [HM.out] at hwl
            rw [hwl] at hrow2
            rcases hrow2.2 with ⟨-, h1⟩ | ⟨g, cp, cur, h1, h2, h3, h4, -⟩
            · omega
            · exact ⟨g, cp, h1, h4, (Array.getElem?_eq_some_iff.1 h3).1⟩
          subst hv2
          subst hv1
          have hb35 := hb34.trans hb5
          have hb15 := hb1.trans (hb35.mono hbs)
          have hRM := hO2.reads (Nat.le_trans hbs hb35.size)
          have hCM := hO2.cap
          have HR1 := Lib.hid hr1
          have HR2 := Lib.hid hr2
          have g0 : w4.cell? ⟨w.heap.size, 0, none⟩ = some (Value.string n1) := bX4.cell 0 rfl
          have g1 : w4.cell? ⟨w.heap.size, 1, none⟩ = some (Value.string n2) := bX4.cell 1 rfl
          clear hr1 hr2 hO0 hO1 hO2 hats2 hrow2 hb4 hb5 hb34 hb35 bX bX4 hbL
          go_wp2_with first
            | (at_builtin; refine wpList_append_run rfl _ _ _ _ rfl _ _ rfl rfl _ _ HR1.out ?_; clear HR1)
            | (at_builtin; refine wpList_append_run rfl _ _ _ _ rfl _ _ rfl rfl _ _ HR2.out ?_; clear HR2)
          clear f0 f1 g0 g1 hbs hbs4 hlen1 hw2 K1 HL
          obtain ⟨g', G1, G2, G3, G4⟩ := wrap_whole (n1, n2) HEM.out HG.out
          obtain ⟨L1, L2⟩ := growP_last HG.out
          obtain ⟨T1, T2⟩ := wrap_text HG.out G1 G3
          have T3 := wrap_own G1 G3 G4 L2
          have T4 := wrap_kids G1 G3 G4 L2
          have T5 := wrap_len (n1, n2) es
          have T6 := wrap_ats (n := (n1, n2)) OK.out.ats
          have T7 := txsL_wrap (n1, n2) es
          have T8 := growP_deep HG.out
          have T9 := OK.out.txs
          have T10 : atP (wrapL (n1, n2) es) (0 : Int) = some g' := atP_of G1 G3
          have T11 : endV g' (0 : Int) = .int .i64 (es.length + 1 : Nat) := (endV_some (growP_nest G1).2 G3).1
          have T12 := whole_more HG.out ⟨1, (n1, n2), [], ⟨#[]⟩⟩
          have T13 : depP (wrapL (n1, n2) es) = g.deep + 1 := by unfold depP; rw [G1]; exact G2
          have T14 : depP es = g.deep := by unfold depP; rw [HG.out]
          rw [HM.out] at T5 T8 T11
          obtain ⟨M, hM⟩ : ∃ M, wrapL (n1, n2) es = M := ⟨_, rfl⟩
          have hdrop : M.drop 1 = es ++ [⟨1, (n1, n2), [], ⟨#[]⟩⟩] := by rw [← hM]; rfl
          rw [hM] at hRM hCM G1 T1 T3 T4 T5 T6 T7 T10 T13
          obtain ⟨V, hV⟩ : ∃ V, Value.slice (some ⟨gb, 0, none⟩) (m + 2) cp2 = V := ⟨_, rfl⟩
          have hsub := hRM.sub 1 (m + 1) (cp2 - 1) (by rw [T5]; omega)
          rw [hdrop, List.take_of_length_le (by rw [List.length_append, HM.out]; simp)] at hsub
          have A1 := Lib.hid (fun (W : World) (hW : Below w5.heap.size w5 W) => events_Kids w5.heap.size M (.slice (some ⟨gb, 0, none⟩) (m + 2) cp2) 0 W (hRM.below hW (Nat.le_refl _)) hW.size (by omega) (fun e he => by have := T6 e he; omega))
          rw [T4] at A1
          have A2 := Lib.hid (fun (W : World) (hW : Below w5.heap.size w5 W) => events_End w5.heap.size M (.slice (some ⟨gb, 0, none⟩) (m + 2) cp2) 0 W (hRM.below hW (Nat.le_refl _)) hW.size (by omega) (fun e he => by have := T6 e he; omega))
          rw [T10] at A2
          have A3 := Lib.hid (fun (W : World) (hW : Below w5.heap.size w5 W) => events_Whole w5.heap.size M (.slice (some ⟨gb, 0, none⟩) (m + 2) cp2) W (hRM.below hW (Nat.le_refl _)) hW.size (by omega) (fun e he => by have := T6 e he; omega))
          rw [G1] at A3
          have A4 := Lib.hid (fun (W : World) (hW : Below w5.heap.size w5 W) => events_Depth w5.heap.size M (.slice (some ⟨gb, 0, none⟩) (m + 2) cp2) W (hRM.below hW (Nat.le_refl _)) hW.size (by omega) (fun e he => by have := T6 e he; omega))
          rw [T13, Int.natCast_add] at A4
          have A5 := Lib.hid (fun (W : World) (hW : Below w5.heap.size w5 W) => events_Depth w.heap.size es (.slice a m cap) W (HR.out.below (bt hb15 hW) (Nat.le_refl _)) (bt hb15 hW).size (by rw [HM.out]; omega) (fun e he => by have := OK.out.ats e he; omega))
          rw [T14] at A5
          have A6 := Lib.hid (fun (W : World) (hW : Below w5.heap.size w5 W) => events_Text w5.heap.size M (.slice (some ⟨gb, 0, none⟩) (m + 2) cp2) 0 W (hRM.below hW (Nat.le_refl _)) hW.size (by omega) (fun e he => by have := T6 e he; omega) (by rw [T7]; omega) hCM)
          rw [T1] at A6
          have hcl : CapR (.slice a m cap) es.length := by have := HL2.out.cap; rw [HM.out] at this ⊢; exact this
          have A7 := Lib.hid (fun (W : World) (hW : Below w5.heap.size w5 W) => events_Text w.heap.size es (.slice a m cap) 0 W (HR.out.below (bt hb15 hW) (Nat.le_refl _)) (bt hb15 hW).size (by rw [HM.out]; omega) (fun e he => by have := OK.out.ats e he; omega) (by omega) hcl)
          rw [T2] at A7
          have A8 := Lib.hid (fun (W : World) (hW : Below w5.heap.size w5 W) => events_Own w5.heap.size M (.slice (some ⟨gb, 0, none⟩) (m + 2) cp2) 0 W (hRM.below hW (Nat.le_refl _)) hW.size (by omega) (fun e he => by have := T6 e he; omega) (by rw [T7]; omega) hCM)
          rw [T3, strOfNums_nil] at A8
          have A9 := Lib.hid (fun (W : World) (hW : Below w5.heap.size w5 W) => events_Whole w5.heap.size (es ++ [⟨1, (n1, n2), [], ⟨#[]⟩⟩]) (.slice (some ⟨gb, 0 + 1 * 5, none⟩) (m + 1) (cp2 - 1)) W (hsub.below hW (Nat.le_refl _)) hW.size (by rw [List.length_append, HM.out]; simp; omega) (fun e he => by
            rcases List.mem_append.1 he with he | he
            · have := OK.out.ats e he; omega
            · rw [List.mem_singleton.1 he]; exact Nat.zero_le _))
          rw [T12] at A9
          obtain ⟨X, hX⟩ : ∃ X, strOfNums (txsL es) = X := ⟨_, rfl⟩
          rw [hX] at A6 A7
          have T11 := Lib.hid T11
          have hU := Below.refl w5.heap.size w5
          have x1 : (X.toList == X.toList) = true := by simp
          obtain ⟨dp, hdp⟩ : ∃ d, g.deep = d := ⟨_, rfl⟩
          rw [hdp] at A4 A5 T8
          have hmp : 0 < m := by rw [← HM.out]; exact L2
          have hc1 : ¬ cp2 = 1 := by omega
          have hc2 : 1 ≤ m + 2 := by omega
          have hc3 : ((m : Int) + 2 - 1) = (m : Int) + 1 := by omega
          clear G1 G2 G3 G4 L1 L2 T1 T2 T3 T4 T5 T6 T7 T9 T10 T12 T13 T14 hRM hCM hM hdrop hsub hX hdp hV hcl
          refine (A1.out _ hU).mono ?_
          rintro r u1 ⟨ku, rfl, hrow, hb⟩
          replace hU := bt hU hb
          obtain ⟨kg, kc, rfl, hkc⟩ : ∃ g cp, ku = .slice (some ⟨g, 0, none⟩) 1 cp ∧ 1 ≤ cp := by
            rcases hrow.2 with ⟨-, h1⟩ | ⟨g, cp, cur, h1, h2, h3, h4, -⟩
            · simp at h1
            · exact ⟨g, cp, h1, h4⟩
          have HROW := Lib.hid hrow
          clear hrow hb A1
          go_wp2_with fail
          refine (A2.out _ hU).mono ?_
          rintro r u2 ⟨hb, hr⟩
          rw [show r = _ from hr, T11.out]
          have HROW2 := Lib.hid (own_below HROW.out hb (Nat.le_refl _))
          replace hU := bt hU hb
          clear hr hb A2 HROW
          go_wp2_with fail
          refine (A3.out _ hU).mono ?_
          rintro r u3 ⟨rfl, hb⟩
          have HROW := Lib.hid (own_below HROW2.out hb (Nat.le_refl _))
          replace hU := bt hU hb
          clear hb A3 HROW2
          go_wp2_with fail
          refine (A4.out _ hU).mono ?_
          rintro r u4 ⟨rfl, hb⟩
          have HROW2 := Lib.hid (own_below HROW.out hb (Nat.le_refl _))
          replace hU := bt hU hb
          clear hb A4 HROW
          go_wp2_with fail
          refine (A5.out _ hU).mono ?_
          rintro r u5 ⟨rfl, hb⟩
          have HROW := Lib.hid (own_below HROW2.out hb (Nat.le_refl _))
          replace hU := bt hU hb
          clear hb A5 HROW2
          have kcell : u5.cell? ⟨kg, 0, none⟩ = some (.int .i64 1) := by
            have h1 := HROW.out.cells (g := kg) rfl 0 (.int .i64 1) rfl
            rwa [addr0] at h1
          clear HROW
          go_wp2_with fail
          refine (A6.out _ hU).mono ?_
          rintro r u6 ⟨rfl, hb⟩
          replace hU := bt hU hb
          clear hb A6 kcell
          go_wp2_with fail
          refine (A7.out _ hU).mono ?_
          rintro r u7 ⟨rfl, hb⟩
          replace hU := bt hU hb
          clear hb A7
          go_wp2_with fail
          refine (A8.out _ hU).mono ?_
          rintro r u8 ⟨rfl, hb⟩
          replace hU := bt hU hb
          clear hb A8
          go_wp2_with fail
          refine (A9.out _ hU).mono ?_
          rintro r u9 ⟨rfl, hb⟩
          replace hU := bt hU hb
          clear hb A9
          go_wp2_with fail
          refine (WK.out _ (bt hb15 hU)).mono ?_
          rintro r w9 ⟨rfl, hb9⟩
          go_wp2_with fail
          go_ret
          exact ⟨rfl, hb9⟩
      · have hd0 := decide_eq_true (show (200 : Int) < (n1.size : Int) + (n2.size : Int) by omega)
        clear HR HL
        go_wp2_with fail
        refine (WK.out _ hb1).mono ?_
        rintro r w9 ⟨rfl, hb9⟩
        go_wp2_with fail
        go_ret
        exact ⟨rfl, hb9⟩
end Go.Proofs.Yteefopeclfojiaa
