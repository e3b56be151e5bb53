/-
  The walk of Parse in the reference.
-/
import Derived.Test.YtjemlaiciacnpaaMeH
import Derived.Test.YtjemlaiciacnpaaMeS
import Derived.Test.YtjemlaiciacnpaaCr
import Derived.Deep.Cut
namespace Go.Proofs.Ytjemlaiciacnpaa
open Go.RowKit
theorem infoPar : (Try.prog.info? 47).map (fun i => (i.zero, i.size, i.bytes)) = some (some (.agg #[.string ⟨#[]⟩, .string ⟨#[]⟩]), 2, 32) := by kernel_rfl
/-- 'append(ps, p)' of one parameter. -/
theorem app_par (wr : World) (base : Nat) (v : Value) (n : Nat) (xs : List Value) (hown : wr.ownsRow base 47 2 v n xs) (x y : ByteArray) (hn : n < 1099511627776) (hbase : base ≤ wr.heap.size) :
    ∃ v' w', (Builtin.append_ #[23, 23] 23 #[v, .slice (some ⟨wr.heap.size, 0, none⟩) 1 1]).run Try.prog (wr.alloc (.cells #[.string x, .string y] 47)) = .ok v' w' ∧
      w'.ownsRow base 47 2 v' (n + 1) (xs ++ [.string x, .string y]) ∧ Below base wr w' := by
  obtain ⟨i0, hi, hz0, hz1, hz2⟩ := info_parts infoPar
  obtain ⟨v', w', h1, h2, h3, h4⟩ := run_append_own (P := Try.prog) (wr.alloc (.cells #[.string x, .string y] 47)) base 23 23 47 i0 (.agg #[.string ⟨#[]⟩, .string ⟨#[]⟩]) 2 32 Try.underlying23 hi hz0 hz1 hz2 rfl (by decide) v n _ (hown.alloc _) ⟨wr.heap.size, 0, none⟩ 1 1 [.string x, .string y] rfl
    (fun j u hj => by
      match j, hj with
      | 0, hj => simp at hj; subst hj; simp [Addr.add, World.cell?_alloc_mark]
      | 1, hj => simp at hj; subst hj; simp [Addr.add, World.cell?_alloc_mark])
    (fun u hu => by simp at hu; rcases hu with rfl | rfl <;> rfl) (by unfold maxLen; omega) (by omega) (by simp; omega)
  exact ⟨v', w', h1, by simpa using h2, ((Below.refl base wr).alloc hbase _).trans (ownBelow (hown.alloc _) h3 (Nat.le_refl _) (by simp; omega))⟩
/-- what Parse comes to. -/
def MOut (w w' : World) (R : Option (List Int × List (List Int × List Int))) (e : Ending) : Prop :=
  ∃ v, e = .returned (.tuple #[.agg #[.string (strOfNums (medR R).1), v], .int .i64 (if R.isSome then 0 else 70)]) ∧ Below w.heap.size w w' ∧ CReads w'.heap.size w' v (medR R).2.length (parCells (medR R).2)
theorem MOut.no {w w' : World} (hb : Below w.heap.size w w') : MOut w w' none (.returned (.tuple #[.agg #[.string ⟨#[]⟩, .slice none 0 0], .int .i64 70])) :=
  ⟨_, rfl, hb, none, 0, rfl, fun i u hi => by simp [medR, parCells] at hi⟩
/-- within the loop of Parse: the result variable in block b2, what is read in b7, its parameters in the row v. -/
structure RIn (w wr : World) (b2 b7 : Nat) (ty : ByteArray) (v : Value) (ps : List (List Int × List Int)) : Prop where
  own : wr.ownsRow (b7 + 1) 47 2 v ps.length (parCells ps)
  out : BlkAt wr b2 #[.string ⟨#[]⟩, .slice none 0 0]
  med : BlkAt wr b7 #[.string ty, v]
  bl : Below b2 w wr
  lt : b2 < b7
theorem RIn.below {w wr wx : World} {b2 b7 : Nat} {ty : ByteArray} {v : Value} {ps : List (List Int × List Int)} (q : RIn w wr b2 b7 ty v ps) (hb : Below wr.heap.size wr wx) : RIn w wx b2 b7 ty v ps :=
  ⟨own_below q.own hb (Nat.le_refl _), q.out.below hb q.out.lt, q.med.below hb q.med.lt, q.bl.trans (hb.mono (Nat.le_of_lt q.out.lt)), q.lt⟩
theorem RIn.app {w wr : World} {b2 b7 : Nat} {ty : ByteArray} {v : Value} {ps : List (List Int × List Int)} (q : RIn w wr b2 b7 ty v ps) (p : List Int × List Int) (x y : ByteArray) (hx : x = strOfNums p.1) (hy : y = strOfNums p.2) (hn : ps.length < 1099511627776) :
    ∃ v' w', (Builtin.append_ #[23, 23] 23 #[v, .slice (some ⟨wr.heap.size, 0, none⟩) 1 1]).run Try.prog (wr.alloc (.cells #[.string x, .string y] 47)) = .ok v' w' ∧
      BlkAt w' b7 #[.string ty, v] ∧ RIn w (w'.setCell ⟨b7, 1, none⟩ v') b2 b7 ty v' (ps ++ [p]) := by
  obtain ⟨v', w', h1, h2, h3⟩ := app_par wr (b7 + 1) v ps.length _ q.own x y hn q.med.lt
  have hlt := q.lt
  have hm := q.med.below h3 (by omega)
  have ho := q.out.below h3 (by omega)
  have hbl := q.bl.trans (h3.mono (by omega))
  refine ⟨v', w', h1, hm, ⟨?_, ho.far (by omega) 1 _, hm.set 1 v', hbl.setCell (p := ⟨b7, 1, none⟩) (by show b2 ≤ b7; omega) _, hlt⟩⟩
  rw [parCells_snoc, ← hx, ← hy]
  simp only [List.length_append, List.length_singleton]
  refine h2.kept (gr_set (gr_refl w' (some b7)) 1 v') ?_
  cases hv : v'.ownBlock with
  | none => exact .inl rfl
  | some k =>
    refine .inr fun e => ?_
    injection e with e
    have := (h2.lt k hv).1
    omega
set_option maxRecDepth 100000 in
set_option maxHeartbeats 8000000 in
theorem ref06_Parse (s : ByteArray) (w : World) (hs : s.size ≤ 100000) :
    Calls Try.prog 9 #[.string s] w fun e w' => MOut w w' (parseN (nums s)) e := by
  have HBL : ∀ w, Calls Try.prog 25 #[.string s, .int .i64 0] w fun e w' => e = .returned (.int .i64 ((spanN isBl s 0 : Nat) : Int)) ∧ w = w' := by
    intro w
    have := ref06_blanks s 0 w (by omega) (by omega)
    rw [Nat.zero_add] at this
    exact this
  have hA0 := spanN_le isBl s 0 (by omega)
  have hA1 := drop_span isBl s 0
  rw [List.drop_zero] at hA1
  rw [Nat.zero_add] at hA0 hA1
  obtain ⟨A, hA⟩ : ∃ A, spanN isBl s 0 = A := ⟨_, rfl⟩
  rw [hA] at HBL hA0 hA1
  clear hA
  have HTK := ref06_token s A
  have hE := spanN_le isTok s A hA0
  have hD := drop_span isTok s A
  have hX := nums_extract_two s A hA0
  have hZ := span_zero (P := isTok) (s := s) (k := A)
  have hT0 : A ≤ A + spanN isTok s A := Nat.le_add_right _ _
  obtain ⟨E, hEE⟩ : ∃ E, A + spanN isTok s A = E := ⟨_, rfl⟩
  rw [hEE] at hE hD hX HTK hT0
  by_cases hT1 : ((nums s).drop A).takeWhile isTok = []
  · rw [parseN_no1 (by rw [← hA1]; exact hT1)]
    have hsp := hZ.2 hT1
    have q1 : ((E : Int) == (A : Int)) = true := by simp; omega
    clear hZ hD hX
    go_enter Try.func9, Try.ntmps9
    go_wp2_with (first | (go_at_call 25; refine (HBL _).mono ?_; rintro e w' ⟨rfl, rfl⟩) | (go_at_call 26; refine (HTK _ hA0 (by omega)).mono ?_; rintro e w' ⟨rfl, rfl⟩))
    refine bodyPost_ret (results_cell2 rfl _ _ _ _ _ rfl (BlkAt.new w _ _) Try.underlying25 rfl (by kernel_rfl)) rfl ?_
    exact MOut.no ((Below.refl _ w).alloc (Nat.le_refl _) _)
  · have q1 : ((E : Int) == (A : Int)) = false := by
      have : spanN isTok s A ≠ 0 := fun e => hT1 (hZ.1 e)
      simp
      omega
    clear hZ hT0
    by_cases hlt : E < s.size
    · have hge := decide_eq_false (show ¬ (s.size : Int) ≤ (E : Int) by omega)
      have hdr := nums_drop s E hlt
      obtain ⟨c, hc⟩ : ∃ c, s[E].toNat = c := ⟨_, rfl⟩
      have hidx := index_str s E hlt (c : Int) E (by rw [hc]) rfl
      rw [hdr, hc] at hD hX
      clear hdr hc
      by_cases hc47 : (c : Int) = 47
      · have q2 : ((c : Int) != 47) = false := by simp [hc47]
        rw [hc47] at hD hX
        have hX2 := hX ⟨_, rfl⟩
        have hv0 : E + 1 ≤ s.size := hlt
        have HTK2 := ref06_token s (E + 1)
        have hF0 := spanN_le isTok s (E + 1) hv0
        have hF1 : E + 1 ≤ E + 1 + spanN isTok s (E + 1) := Nat.le_add_right _ _
        have hF2 := drop_span isTok s (E + 1)
        have hF4 := span_zero (P := isTok) (s := s) (k := E + 1)
        obtain ⟨F, hF⟩ : ∃ F, E + 1 + spanN isTok s (E + 1) = F := ⟨_, rfl⟩
        rw [hF] at hF0 hF1 hF2 HTK2 hX2
        rw [show ((E + 1 : Nat) : Int) = (E : Int) + 1 by omega] at HTK2
        clear hX
        by_cases hT2 : ((nums s).drop (E + 1)).takeWhile isTok = []
        · have hsp := hF4.2 hT2
          have hFE : F = E + 1 := by omega
          rw [parseN_no4 (by rw [← hA1]; exact hD.symm) hT2]
          clear hF4 hF hc47 hD hX2 hF2 hsp hT2 hT1 hF1 hF0 hA1 hEE
          subst hFE
          rw [show ((E + 1 : Nat) : Int) = (E : Int) + 1 by omega] at HTK2
          go_enter Try.func9, Try.ntmps9
          go_wp2_with fail
          refine (HBL _).mono ?_
          rintro e w' ⟨rfl, rfl⟩
          go_wp2_with fail
          refine (HTK _ hA0 (by omega)).mono ?_
          rintro e w' ⟨rfl, rfl⟩
          go_wp2_with fail
          refine (HTK2 _ hv0 (by omega)).mono ?_
          rintro e w' ⟨rfl, rfl⟩
          go_wp2_with fail
          refine bodyPost_ret (results_cell2 rfl _ _ _ _ _ rfl (BlkAt.new w _ _) Try.underlying25 rfl (by kernel_rfl)) rfl ?_
          exact MOut.no ((Below.refl _ w).alloc (Nat.le_refl _) _)
        · have q3 : ((F : Int) == (E : Int) + 1) = false := by
            have : spanN isTok s (E + 1) ≠ 0 := fun e => hT2 (hF4.1 e)
            simp
            omega
          rw [parseN_eq (by rw [← hA1]; exact hT1) (by rw [← hA1]; exact hD.symm) hT2, ← hA1]
          obtain ⟨L, hL⟩ : ∃ L, lowL (((nums s).drop A).takeWhile isTok ++ 47 :: ((nums s).drop (E + 1)).takeWhile isTok) = L := ⟨_, rfl⟩
          rw [← hF2, hL]
          have hG0 := spanN_le isBl s F hF0
          have hG2 := drop_span isBl s F
          have HBL2 := ref06_blanks s F
          obtain ⟨G, hG⟩ : ∃ G, F + spanN isBl s F = G := ⟨_, rfl⟩
          rw [hG] at hG0 hG2 HBL2
          rw [← hG2]
          obtain ⟨R, hR⟩ : ∃ R, parW [] ((nums s).drop G) = R := ⟨_, rfl⟩
          rw [hR]
          have HRR := Lib.hid hR
          have HLL := Lib.hid hL
          have HX2 := Lib.hid hX2
          have hAF : A ≤ F := by omega
          have hge' : ¬ s.size ≤ E := by omega
          clear hF4 hF hc47 hD hX2 hF2 hG2 hR hG hL hT2 hT1 hA1 hEE
          go_enter Try.func9, Try.ntmps9
          have hn1 := BlkAt.new w #[.string ⟨#[]⟩, .slice none 0 0] 25
          have hb1 := (Below.refl w.heap.size w).alloc (Nat.le_refl _) (.cells #[.string ⟨#[]⟩, .slice none 0 0] 25)
          go_wp2_with fail
          generalize w.alloc (.cells #[.string ⟨#[]⟩, .slice none 0 0] 25) = w1 at hn1 hb1 ⊢
          go_wp2_with fail
          refine (HBL _).mono ?_
          rintro e w' ⟨rfl, rfl⟩
          go_wp2_with fail
          refine (HTK _ hA0 (by omega)).mono ?_
          rintro e w' ⟨rfl, rfl⟩
          go_wp2_with fail
          refine (HTK2 _ hv0 (by omega)).mono ?_
          rintro e w' ⟨rfl, rfl⟩
          go_wp2_with fail
          refine (ref06_Lower (s.extract A F) _ (by rw [ByteArray.size_extract]; omega)).mono ?_
          rw [HX2.out, HLL.out]
          rintro e w2 ⟨rfl, hb2⟩
          have hs1 := hn1.lt
          have hn2 := hn1.below hb2 hs1
          have hb12 := hb1.trans (hb2.mono hb1.size)
          have hs2 := hn2.lt
          obtain ⟨b2, hbb2⟩ : ∃ b2, w.heap.size = b2 := ⟨_, rfl⟩
          obtain ⟨b7, hbb7⟩ : ∃ b7, w2.heap.size = b7 := ⟨_, rfl⟩
          obtain ⟨ty, hty⟩ : ∃ ty, strOfNums L = ty := ⟨_, rfl⟩
          have HTY := Lib.hid hty
          have q0 : RIn w (w2.alloc (.cells #[.string ty, .slice none 0 0] 25)) b2 b7 ty (.slice none 0 0) [] :=
            ⟨World.ownsRow_nil _ _ _ _, by rw [← hbb2]; exact hn2.alloc _, by rw [← hbb7]; exact BlkAt.new w2 _ _, by rw [← hbb2]; exact hb12.alloc (by omega) _, by omega⟩
          have HB2 := Lib.hid hbb2
          rw [hty, hbb2]
          clear hty hn1 hb1 hb2 hn2 hb12 hs1 hs2
          go_wp2_with fail
          generalize w2.alloc (.cells #[.string ty, .slice none 0 0] 25) = w3 at q0 ⊢
          refine (HBL2 _ hF0 (by omega)).mono ?_
          rintro e w4 ⟨rfl, rfl⟩
          clear HBL HBL2 HTK HTK2 hbb7 hbb2 hF1 hidx q1 q2 q3
          go_wp2_with fail
          go_loopw [4] (fun i wr => ∃ (j : Nat) (ps : List (List Int × List Int)) (v : Value), i = .int .i64 j ∧ j ≤ s.size ∧ ps.length ≤ j ∧ parW ps ((nums s).drop j) = R ∧ RIn w wr b2 b7 ty v ps) (fun i _ => s.size - (intOf i).toNat)
          case atStart => exact ⟨G, [], _, rfl, hG0, by simp, HRR.out, q0⟩
          case round =>
            obtain ⟨j, ps, v, rfl, hj, hpl, hpw, q⟩ := hrel
            obtain ⟨va, vl, vc, rfl⟩ := own_slice q.own
            have ho0 := q.out.cell 0 rfl
            have ho1 := q.out.cell 1 rfl
            have hf0 := q.out.free 0
            have hf1 := q.out.free 1
            have fin : ∀ wx, RIn w wx b2 b7 ty (.slice va vl vc) ps → R = none → BlkAt ((wx.setCell ⟨b2, 0, none⟩ (.string ⟨#[]⟩)).setCell ⟨b2, 1, none⟩ (.slice none 0 0)) b2 #[.string ⟨#[]⟩, .slice none 0 0] ∧ MOut w ((wx.setCell ⟨b2, 0, none⟩ (.string ⟨#[]⟩)).setCell ⟨b2, 1, none⟩ (.slice none 0 0)) (R.map fun ps => (L, ps)) (.returned (.tuple #[.agg #[.string ⟨#[]⟩, .slice none 0 0], .int .i64 70])) := by
              intro wx qx hR0
              subst hR0
              exact ⟨(qx.out.set 0 _).set 1 _, MOut.no (by rw [HB2.out]; exact (qx.bl.setCell (p := ⟨b2, 0, none⟩) (Nat.le_refl _) _).setCell (p := ⟨b2, 1, none⟩) (Nat.le_refl _) _)⟩
            have FIN := Lib.hid fin
            clear fin
            by_cases hlt2 : j < s.size
            · have hdr := nums_drop s j hlt2
              obtain ⟨c2, hc2⟩ : ∃ c2, s[j].toNat = c2 := ⟨_, rfl⟩
              have hidx2 := index_str s j hlt2 (c2 : Int) j (by rw [hc2]) rfl
              rw [hdr, hc2] at hpw
              clear hdr hc2
              by_cases h59 : (c2 : Int) = 59
              · have q4 : ((c2 : Int) != 59) = false := by simp [h59]
                rw [h59] at hpw
                have HBL3 := ref06_blanks s (j + 1)
                have hH0 := spanN_le isBl s (j + 1) hlt2
                have hH1 : j + 1 ≤ j + 1 + spanN isBl s (j + 1) := Nat.le_add_right _ _
                have hH2 := drop_span isBl s (j + 1)
                obtain ⟨H, hH⟩ : ∃ H, j + 1 + spanN isBl s (j + 1) = H := ⟨_, rfl⟩
                rw [hH] at HBL3 hH0 hH1 hH2
                rw [show ((j + 1 : Nat) : Int) = (j : Int) + 1 by omega] at HBL3
                clear hH h59
                by_cases hlt3 : H < s.size
                · have hdr3 := nums_drop s H hlt3
                  obtain ⟨d, hd⟩ : ∃ d, s[H].toNat = d := ⟨_, rfl⟩
                  have hidx3 := index_str s H hlt3 (d : Int) H (by rw [hd]) rfl
                  rw [hdr3, hd] at hH2
                  by_cases hd59 : (d : Int) = 59
                  · have q5 : ((d : Int) != 59) = false := by simp [hd59]
                    rw [hd59] at hH2
                    rw [parW_semi ps _ _ hH2.symm, ← hd59, ← hd, ← hdr3] at hpw
                    have HPW := Lib.hid hpw
                    clear hd59 hd hpw hH2 hdr3
                    go_wp2_with fail
                    refine (HBL3 _ hlt2 (by omega)).mono ?_
                    rintro e w5 ⟨rfl, rfl⟩
                    go_wp2_with fail
                    exact ⟨⟨H, ps, _, rfl, hH0, by omega, HPW.out, q⟩, by simp [intOf]; omega⟩
                  · have q5 : ((d : Int) != 59) = true := by simpa using hd59
                    have HPR := ref06_param s H
                    rw [hdr3, hd] at HPR
                    cases hR2 : parN ((d : Int) :: (nums s).drop (H + 1)) with
                    | none =>
                      rw [parW_bad ps _ _ _ hH2.symm hd59 hR2] at hpw
                      rw [hR2] at HPR
                      have HPW := Lib.hid hpw
                      clear hd59 hd hpw hH2 hdr3 hR2
                      go_wp2_with fail
                      refine (HBL3 _ hlt2 (by omega)).mono ?_
                      rintro e w5 ⟨rfl, rfl⟩
                      go_wp2_with fail
                      refine (HPR _ hlt3 (by omega)).mono ?_
                      rintro e w5 ⟨x, y, n, rfl, hb5, -⟩
                      have q6 := (q.below hb5).below ((Below.refl _ w5).alloc (Nat.le_refl _) (.cells #[.string x, .string y] 47))
                      go_upto_region 17 with (fail)
                      generalize w5.alloc (.cells #[.string x, .string y] 47) = w6 at q6 ⊢
                      have hf60 := q6.out.free 0
                      have hf61 := q6.out.free 1
                      have hc60 := q6.out.cell 0 rfl
                      have hc61 := q6.out.cell 1 rfl
                      go_wp2
                      obtain ⟨h8, h9⟩ := FIN.out _ q6 HPW.out.symm
                      refine bodyPost_ret (results_cell2 rfl _ _ _ _ _ rfl h8 Try.underlying25 rfl (by kernel_rfl)) rfl ?_
                      exact h9
                    | some pu =>
                      obtain ⟨⟨nm, v2⟩, u⟩ := pu
                      have hul := parN_len hR2
                      rw [parW_par ps _ _ u _ (nm, v2) hH2.symm hd59 hR2] at hpw
                      rw [hR2] at HPR
                      have hdl : ((d : Int) :: (nums s).drop (H + 1)).length = s.size - H := by
                        rw [← hd, ← hdr3, List.length_drop, nums_length]
                      rw [hdl] at hul
                      have HPW := Lib.hid hpw
                      clear hd59 hd hpw hH2 hdr3 hR2 hdl
                      go_wp2_with fail
                      refine (HBL3 _ hlt2 (by omega)).mono ?_
                      rintro e w5 ⟨rfl, rfl⟩
                      go_wp2_with fail
                      refine (HPR _ hlt3 (by omega)).mono ?_
                      rintro e w5 ⟨x, y, n, rfl, hb5, h10⟩
                      obtain ⟨hx, hy, hn0, hun⟩ := h10 nm v2 u rfl
                      have HX := Lib.hid hx
                      have HY := Lib.hid hy
                      clear hx hy h10
                      obtain ⟨b8, hbb8⟩ : ∃ b8, w5.heap.size = b8 := ⟨_, rfl⟩
                      have q6 := (q.below hb5).below ((Below.refl _ w5).alloc (Nat.le_refl _) (.cells #[.string x, .string y] 47))
                      have hp6 := BlkAt.new w5 #[.string x, .string y] 47
                      rw [hbb8] at hp6
                      go_upto_region 18 with (fail)
                      generalize w5.alloc (.cells #[.string x, .string y] 47) = w6 at q6 hp6 ⊢
                      clear hbb8
                      obtain ⟨v', w7, hr, hm7, q8⟩ := q6.app (nm, v2) x y HX.out HY.out (by omega)
                      obtain ⟨va', vl', vc', rfl⟩ := own_slice q8.own
                      have HA := Lib.hid hr
                      have hc60 := q6.med.cell 0 rfl
                      have hc61 := q6.med.cell 1 rfl
                      have hc62 := hp6.cell 0 rfl
                      have hc63 := hp6.cell 1 rfl
                      have hc70 := hm7.cell 0 rfl
                      have hc71 := hm7.cell 1 rfl
                      have hf71 := hm7.free 1
                      have HBL4 := ref06_blanks s n
                      have hJ0 := spanN_le isBl s n hn0
                      have hJ1 : n ≤ n + spanN isBl s n := Nat.le_add_right _ _
                      have hJ2 := drop_span isBl s n
                      obtain ⟨J, hJ⟩ : ∃ J, n + spanN isBl s n = J := ⟨_, rfl⟩
                      rw [hJ] at HBL4 hJ0 hJ1 hJ2
                      have hun2 : u.length = s.size - n := by rw [hun, List.length_drop, nums_length]
                      have HPX := Lib.hid (show parW (ps ++ [(nm, v2)]) ((nums s).drop J) = R by rw [hJ2, ← hun]; exact HPW.out)
                      clear hr hJ hJ2 hun
                      go_wp2_with (at_builtin; refine wpList_append_run rfl _ _ _ _ rfl _ _ rfl rfl _ _ HA.out ?_)
                      refine (HBL4 _ hn0 (by omega)).mono ?_
                      rintro e w9 ⟨rfl, rfl⟩
                      go_wp2_with fail
                      exact ⟨⟨J, ps ++ [(nm, v2)], _, rfl, hJ0, by simp; omega, HPX.out, q8⟩, by simp [intOf]; omega⟩
                · have hl3 := decide_eq_false (show ¬ (H : Int) < (s.size : Int) by omega)
                  have hdE := nums_drop_end s H (by omega)
                  rw [hdE] at hH2
                  rw [parW_end ps _ hH2.symm] at hpw
                  have HPX := Lib.hid (show parW ps ((nums s).drop H) = R by rw [hdE, parW_nil]; exact hpw)
                  clear hH2 hpw hdE
                  go_wp2_with fail
                  refine (HBL3 _ hlt2 (by omega)).mono ?_
                  rintro e w5 ⟨rfl, rfl⟩
                  go_wp2_with fail
                  exact ⟨⟨H, ps, _, rfl, hH0, by omega, HPX.out, q⟩, by simp [intOf]; omega⟩
              · have q4 : ((c2 : Int) != 59) = true := by simpa using h59
                rw [parW_no h59] at hpw
                have HPW := Lib.hid hpw
                clear h59 hpw
                go_wp2
                obtain ⟨h8, h9⟩ := FIN.out _ q HPW.out.symm
                refine bodyPost_ret (results_cell2 rfl _ _ _ _ _ rfl h8 Try.underlying25 rfl (by kernel_rfl)) rfl ?_
                exact h9
            · rw [nums_drop_end s j (by omega), parW_nil] at hpw
              subst hpw
              have hc0 := q.med.cell 0 rfl
              have hc1 := q.med.cell 1 rfl
              have hlt27 := q.lt
              have hne : b7 ≠ b2 := by omega
              have h8 := (q.out.set 0 (.string ty)).set 1 (.slice va vl vc)
              have h9 := (q.bl.setCell (p := ⟨b2, 0, none⟩) (Nat.le_refl _) (.string ty)).setCell (p := ⟨b2, 1, none⟩) (Nat.le_refl _) (.slice va vl vc)
              have h11 : CReads ((wr.setCell ⟨b2, 0, none⟩ (.string ty)).setCell ⟨b2, 1, none⟩ (.slice va vl vc)).heap.size ((wr.setCell ⟨b2, 0, none⟩ (.string ty)).setCell ⟨b2, 1, none⟩ (.slice va vl vc)) (.slice va vl vc) ps.length (parCells ps) := by
                refine CReads.of_own (q.own.kept (gr_set (gr_set (gr_refl wr (some b2)) 0 _) 1 _) ?_)
                cases hv : (Value.slice va vl vc).ownBlock with
                | none => exact .inl rfl
                | some k =>
                  refine .inr fun e => ?_
                  injection e with e
                  have := (q.own.lt k hv).1
                  omega
              have H8 := Lib.hid h8
              have H9 := Lib.hid h9
              have H11 := Lib.hid h11
              clear h8 h9 h11
              go_wp2
              refine bodyPost_ret (results_cell2 rfl _ _ _ _ _ rfl H8.out Try.underlying25 rfl (by kernel_rfl)) rfl ?_
              exact ⟨_, by rw [← HTY.out]; rfl, by rw [HB2.out]; exact H9.out, H11.out⟩
      · have q2 : ((c : Int) != 47) = true := by simpa using hc47
        rw [parseN_no3 (by rw [← hA1]; exact hD.symm) hc47]
        clear hc47 hD hX
        go_enter Try.func9, Try.ntmps9
        go_wp2_with (first | (go_at_call 25; refine (HBL _).mono ?_; rintro e w' ⟨rfl, rfl⟩) | (go_at_call 26; refine (HTK _ hA0 (by omega)).mono ?_; rintro e w' ⟨rfl, rfl⟩))
        refine bodyPost_ret (results_cell2 rfl _ _ _ _ _ rfl (BlkAt.new w _ _) Try.underlying25 rfl (by kernel_rfl)) rfl ?_
        exact MOut.no ((Below.refl _ w).alloc (Nat.le_refl _) _)
    · have hge := decide_eq_true (show (s.size : Int) ≤ (E : Int) by omega)
      rw [nums_drop_end s E (by omega)] at hD
      rw [parseN_no2 (by rw [← hA1]; exact hD.symm)]
      clear hD hX
      go_enter Try.func9, Try.ntmps9
      go_wp2_with (first | (go_at_call 25; refine (HBL _).mono ?_; rintro e w' ⟨rfl, rfl⟩) | (go_at_call 26; refine (HTK _ hA0 (by omega)).mono ?_; rintro e w' ⟨rfl, rfl⟩))
      refine bodyPost_ret (results_cell2 rfl _ _ _ _ _ rfl (BlkAt.new w _ _) Try.underlying25 rfl (by kernel_rfl)) rfl ?_
      exact MOut.no ((Below.refl _ w).alloc (Nat.le_refl _) _)
end Go.Proofs.Ytjemlaiciacnpaa
