/-
  The walk of layer 2's statement Utf8Sorts.
-/
import Derived.Test.YtkkipogldcbokaaU8L
import Derived.Test.YtkkipogldcbokaaU8S
namespace Go.Proofs.Ytkkipogldcbokaa
open Go.RowKit
set_option maxHeartbeats 4000000 in
theorem law_Utf8Sorts (v : Value) (xs : List Int) (u : Value) (ys : List Int) (w : World) (hr : Reads w.heap.size w v (xs.map (Value.int .i64))) (hr' : Reads w.heap.size w u (ys.map (Value.int .i64))) :
    Calls Try.prog 6 #[v, u] w fun e w' => e = .returned (.bool true) ∧ Below w.heap.size w w' := by
  have hr0 := hr
  have hr0' := hr'
  obtain ⟨a, cap, rfl, hl, hcells⟩ := hr.open
  obtain ⟨a', cap', rfl, hl', hcells'⟩ := hr'.open
  clear hr hr'
  unfold maxLen at hl hl'
  by_cases h1 : xs.length ≤ 500
  · by_cases h2 : ys.length ≤ 500
    · obtain ⟨tx, htx⟩ : ∃ x, textS xs = x := ⟨_, rfl⟩
      obtain ⟨ty, hty⟩ : ∃ x, textS ys = x := ⟨_, rfl⟩
      have TX := Lib.hid htx
      have TY := Lib.hid hty
      cases hx : scAll xs with
      | false =>
        have A := Lib.hid hx
        clear hx htx hty
        go_enter Try.func6, Try.ntmps6
        go_wp2_with fail
        refine (utf8_Text _ xs _ _ hr0 (Nat.le_refl _) (by omega)).mono ?_
        rw [A.out, TX.out]
        rintro e w1 ⟨rfl, hb1⟩
        go_wp2_with fail
        refine (utf8_Text _ ys _ _ (hr0'.below hb1 (Nat.le_refl _)) hb1.size (by omega)).mono ?_
        rw [TY.out]
        rintro e w2 ⟨rfl, hb2⟩
        have hb12 := hb1.trans (hb2.mono hb1.size)
        go_wp2_with fail
        refine (law02_wakes _).mono ?_
        rintro e w3 ⟨rfl, hb3⟩
        go_wp2
        go_ret
        exact ⟨rfl, hb12.trans (hb3.mono hb12.size)⟩
      | true =>
        have A := Lib.hid hx
        cases hy : scAll ys with
        | false =>
          have B := Lib.hid hy
          clear hx htx hty hy
          go_enter Try.func6, Try.ntmps6
          go_wp2_with fail
          refine (utf8_Text _ xs _ _ hr0 (Nat.le_refl _) (by omega)).mono ?_
          rw [A.out, TX.out]
          rintro e w1 ⟨rfl, hb1⟩
          go_wp2_with fail
          refine (utf8_Text _ ys _ _ (hr0'.below hb1 (Nat.le_refl _)) hb1.size (by omega)).mono ?_
          rw [B.out, TY.out]
          rintro e w2 ⟨rfl, hb2⟩
          have hb12 := hb1.trans (hb2.mono hb1.size)
          go_wp2_with fail
          refine (law02_wakes _).mono ?_
          rintro e w3 ⟨rfl, hb3⟩
          go_wp2
          go_ret
          exact ⟨rfl, hb12.trans (hb3.mono hb12.size)⟩
        | true =>
          have B := Lib.hid hy
          have hless := textS_less xs ys hx hy
          have heq := textS_eq xs ys hx hy
          rw [htx, hty] at hless heq
          have LS := Lib.hid hless
          have EQ := Lib.hid heq
          clear hx htx hty hy hless heq
          go_enter Try.func6, Try.ntmps6
          go_wp2_with fail
          refine (utf8_Text _ xs _ _ hr0 (Nat.le_refl _) (by omega)).mono ?_
          rw [A.out, TX.out]
          rintro e w1 ⟨rfl, hb1⟩
          go_wp2_with fail
          refine (utf8_Text _ ys _ _ (hr0'.below hb1 (Nat.le_refl _)) hb1.size (by omega)).mono ?_
          rw [B.out, TY.out]
          rintro e w2 ⟨rfl, hb2⟩
          have hb12 := hb1.trans (hb2.mono hb1.size)
          go_wp2_with fail
          go_loopw [9] (fun i wr => ∃ k : Nat, i = .int .i64 k ∧ k ≤ xs.length ∧ k ≤ ys.length ∧ xs.take k = ys.take k ∧ Below w2.heap.size w2 wr) (fun i _ => xs.length - (intOf i).toNat)
          case atStart => exact ⟨0, rfl, by omega, by omega, by simp, Below.refl _ _⟩
          case round =>
            obtain ⟨k, rfl, hk, hk', htk, hb⟩ := hrel
            have hb02 := hb12.trans (hb.mono hb12.size)
            by_cases hlt : k < xs.length
            · by_cases hlt' : k < ys.length
              · obtain ⟨b, off, rfl, hbB, hcx⟩ := hcells k hlt
                obtain ⟨b', off', rfl, hbB', hcy⟩ := hcells' k hlt'
                have hcx1 := (hb02.cell (p := ⟨b, off + k, none⟩) hbB).trans hcx
                have hcy1 := (hb02.cell (p := ⟨b', off' + k, none⟩) hbB').trans hcy
                have hsx : isSc xs[k] = true := scAll_mem A.out (List.getElem_mem hlt)
                have hsy : isSc ys[k] = true := scAll_mem B.out (List.getElem_mem hlt')
                have hpx : xs = xs.take k ++ xs[k] :: xs.drop (k + 1) := by rw [← List.drop_eq_getElem_cons hlt, List.take_append_drop]
                have hpy : ys = xs.take k ++ ys[k] :: ys.drop (k + 1) := by rw [htk, ← List.drop_eq_getElem_cons hlt', List.take_append_drop]
                obtain ⟨x, hx⟩ : ∃ x, xs[k] = x := ⟨_, rfl⟩
                obtain ⟨y, hy⟩ : ∃ y, ys[k] = y := ⟨_, rfl⟩
                rw [hx] at hcx1 hsx hpx
                rw [hy] at hcy1 hsy hpy
                have hki : (k : Int) < (xs.length : Int) := by omega
                have hki' : (k : Int) < (ys.length : Int) := by omega
                have hke : ((k : Int) == (xs.length : Int)) = false := by simp; omega
                have hke' : ((k : Int) == (ys.length : Int)) = false := by simp; omega
                by_cases hxy : x = y
                · have ht1 : xs.take (k + 1) = ys.take (k + 1) := by rw [take_snoc xs k hlt, take_snoc ys k hlt', htk, hx, hy, hxy]
                  have HT := Lib.hid ht1
                  clear hcells hcells' hcx hcy htk hx hy ht1 hpx hpy hsx hsy hke hke'
                  subst hxy
                  have hne : (x == x) = true := by simp
                  go_wp2_with fail
                  go_quiet (fail)
                  go_wp2
                  exact ⟨⟨k + 1, by go_num, by omega, by omega, HT.out, below_dn hb _⟩, by simp [intOf]; omega⟩
                · have hL : ltN (encAll xs) (encAll ys) = decide (x < y) := by
                    conv => lhs; rw [hpx, hpy]
                    exact ltN_part _ _ _ x y hsx hsy hxy
                  have hE : decide (xs = ys) = false := decide_eq_false (fun h => hxy (by subst h; rw [← hx, ← hy]))
                  have HL := Lib.hid hL
                  have HE := Lib.hid hE
                  have hne : (x == y) = false := by simpa using hxy
                  clear hcells hcells' hcx hcy htk hx hy hxy hpx hpy hL hE hsx hsy
                  by_cases hlxy : x < y
                  · have hless2 : Op.bytesLess tx.toList ty.toList = true := by rw [LS.out, HL.out, decide_eq_true hlxy]
                    have heq2 : (tx.toList == ty.toList) = false := by rw [EQ.out, HE.out]
                    go_wp2_with fail
                    go_quiet (fail)
                    go_wp2_with fail
                    go_quiet (fail)
                    go_wp2_with fail
                    refine (law02_wakes _).mono ?_
                    rintro e w3 ⟨rfl, hb3⟩
                    go_wp2
                    go_ret
                    exact ⟨rfl, (below_dn hb02 _).trans (hb3.mono (below_dn hb02 _).size)⟩
                  · have hless2 : Op.bytesLess tx.toList ty.toList = false := by rw [LS.out, HL.out, decide_eq_false hlxy]
                    have heq2 : (tx.toList == ty.toList) = false := by rw [EQ.out, HE.out]
                    have hd : decide (x < y) = false := decide_eq_false hlxy
                    go_wp2_with fail
                    go_quiet (fail)
                    go_wp2_with fail
                    go_quiet (fail)
                    go_wp2_with fail
                    refine (law02_wakes _).mono ?_
                    rintro e w3 ⟨rfl, hb3⟩
                    go_wp2
                    go_ret
                    exact ⟨rfl, (below_dn hb02 _).trans (hb3.mono (below_dn hb02 _).size)⟩
              · obtain rfl : k = ys.length := by omega
                have hpx : xs = ys ++ xs[ys.length] :: xs.drop (ys.length + 1) := by
                  rw [List.take_length] at htk
                  conv => lhs; rw [← List.take_append_drop ys.length xs, htk, List.drop_eq_getElem_cons hlt]
                have hsx : isSc xs[ys.length] = true := scAll_mem A.out (List.getElem_mem hlt)
                have hL : ltN (encAll xs) (encAll ys) = false := by
                  have h := (ltN_end ys (xs.drop (ys.length + 1)) xs[ys.length] hsx).2
                  rwa [← hpx] at h
                have hE : decide (xs = ys) = false := decide_eq_false (fun h => by subst h; omega)
                have hless2 : Op.bytesLess tx.toList ty.toList = false := by rw [LS.out, hL]
                have heq2 : (tx.toList == ty.toList) = false := by rw [EQ.out, hE]
                have hke : ((ys.length : Int) == (xs.length : Int)) = false := by simp; omega
                have hd : decide ((ys.length : Int) < (ys.length : Int)) = false := by simp
                have hlt2 : (ys.length : Int) < (xs.length : Int) := by omega
                clear hcells hcells' htk hpx hsx hL hE
                go_wp2_with fail
                go_quiet (fail)
                go_wp2_with fail
                go_quiet (fail)
                go_wp2_with fail
                refine (law02_wakes _).mono ?_
                rintro e w3 ⟨rfl, hb3⟩
                go_wp2
                go_ret
                exact ⟨rfl, (below_dn hb02 _).trans (hb3.mono (below_dn hb02 _).size)⟩
            · obtain rfl : k = xs.length := by omega
              rw [List.take_length] at htk
              by_cases hlt' : xs.length < ys.length
              · have hpy : ys = xs ++ ys[xs.length] :: ys.drop (xs.length + 1) := by
                  conv => lhs; rw [← List.take_append_drop xs.length ys, ← htk, List.drop_eq_getElem_cons hlt']
                have hsy : isSc ys[xs.length] = true := scAll_mem B.out (List.getElem_mem hlt')
                have hL : ltN (encAll xs) (encAll ys) = true := by
                  have h := (ltN_end xs (ys.drop (xs.length + 1)) ys[xs.length] hsy).1
                  rwa [← hpy] at h
                have hE : decide (xs = ys) = false := decide_eq_false (fun h => by subst h; omega)
                have hless2 : Op.bytesLess tx.toList ty.toList = true := by rw [LS.out, hL]
                have heq2 : (tx.toList == ty.toList) = false := by rw [EQ.out, hE]
                have hke : ((xs.length : Int) == (ys.length : Int)) = false := by simp; omega
                have hd : decide ((xs.length : Int) < (xs.length : Int)) = false := by simp
                have hlt2 : (xs.length : Int) < (ys.length : Int) := by omega
                clear hcells hcells' htk hpy hsy hL hE
                go_wp2_with fail
                go_quiet (fail)
                go_wp2_with fail
                go_quiet (fail)
                go_wp2_with fail
                refine (law02_wakes _).mono ?_
                rintro e w3 ⟨rfl, hb3⟩
                go_wp2
                go_ret
                exact ⟨rfl, (below_dn hb02 _).trans (hb3.mono (below_dn hb02 _).size)⟩
              · have hxy : xs = ys := by rw [htk]; exact List.take_of_length_le (by omega)
                subst hxy
                have hless2 : Op.bytesLess tx.toList ty.toList = false := by rw [LS.out, ltN_same]
                have heq2 : (tx.toList == ty.toList) = true := by rw [EQ.out, decide_eq_true rfl]
                have hd : decide ((xs.length : Int) < (xs.length : Int)) = false := by simp
                clear hcells hcells' htk
                go_wp2_with fail
                go_quiet (fail)
                go_wp2_with fail
                go_quiet (fail)
                go_wp2_with fail
                refine (law02_wakes _).mono ?_
                rintro e w3 ⟨rfl, hb3⟩
                go_wp2
                go_ret
                exact ⟨rfl, (below_dn hb02 _).trans (hb3.mono (below_dn hb02 _).size)⟩
    · go_enter Try.func6, Try.ntmps6
      go_wp2_with fail
      refine (law02_wakes _).mono ?_
      rintro e w3 ⟨rfl, hb3⟩
      go_wp2
      go_ret
      exact ⟨rfl, hb3⟩
  · go_enter Try.func6, Try.ntmps6
    go_wp2_with fail
    refine (law02_wakes _).mono ?_
    rintro e w3 ⟨rfl, hb3⟩
    go_wp2
    go_ret
    exact ⟨rfl, hb3⟩
end Go.Proofs.Ytkkipogldcbokaa
