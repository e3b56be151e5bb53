/-
  The walk of layer 13's statement RefsNumbers.
-/
import Derived.Test.YtkdkoondchbekaaRfL
namespace Go.Proofs.Ytkdkoondchbekaa
open Go.RowKit Go.Shelf
attribute [local go_sem] Oper.semAt_some
def emp1 (d : Value) : Nat := match d with
  | .string D => if D.size = 0 then 1 else 0
  | _ => 0
theorem emp1_str (D : ByteArray) : emp1 (.string D) = if D.size = 0 then 1 else 0 := rfl
theorem emptyL {D : ByteArray} (h : D.size = 0) : D.toList.isEmpty = true := by rw [toList_nilR h]; rfl
theorem notEmptyL {D : ByteArray} (h : D.size ≠ 0) : D.toList.isEmpty = false := by
  rw [ByteArray.toList_eq]
  cases e : D.data.toList with
  | nil => exact absurd (by have := congrArg List.length e; rw [Array.length_toList] at this; exact this) h
  | cons c t => rfl
theorem hex_ext : ∀ (e : Nat), e < 16 → ∃ c : Int, worthN c = (e : Int) ∧ (48 ≤ c ∧ c ≤ 102) ∧ (⟨#[48, 49, 50, 51, 52, 53, 54, 55, 56, 57, 97, 98, 99, 100, 101, 102]⟩ : ByteArray).extract e (e + 1) = strOfNums [c] := by
  intro e he
  have key : ∀ e : Fin 16, (⟨#[48, 49, 50, 51, 52, 53, 54, 55, 56, 57, 97, 98, 99, 100, 101, 102]⟩ : ByteArray).extract e.1 (e.1 + 1) = strOfNums [if (e.1 : Int) < 10 then 48 + (e.1 : Int) else 87 + (e.1 : Int)] := by decide
  exact ⟨_, worth_hex (e : Int) (by omega) (by omega), by split <;> omega, key ⟨e, he⟩⟩
/-- the digits so far, to a base, and what is left. -/
def DigAt (b : Int) (r : Nat) (w : World) (d n : Value) (wr : World) : Prop :=
  ∃ (D : ByteArray) (k : Nat), d = .string D ∧ n = .int .i64 k ∧ D.size + k ≤ r + 1 ∧ valN b k (nums D) = some (r : Int) ∧ (nums D).head? ≠ some 120 ∧ Below w.heap.size w wr
set_option maxRecDepth 100000 in
set_option maxHeartbeats 2000000 in
theorem law_RefsNumbers (r0 : Int) (w : World) (m : Int) (hm : MaxAt w m) :
    Calls Try.prog 7 #[.int .i64 r0] w fun e w' => e = .returned (.bool true) ∧ Below w.heap.size w w' := by
  have HW := Lib.hid (fun (u : World) (h : MaxAt u m) => law13_wakes u m h)
  have HM := Lib.hid hm
  clear hm
  have hB := Below.refl w.heap.size w
  by_cases h1 : r0 < 0
  · go_enter Try.func7, Try.ntmps7
    go_wp2_with (go_at_call 9; refine (HW.out _ (HM.out.below hB)).mono ?_; rintro e w' ⟨rfl, hb1⟩; replace hB := bt hB hb1)
    go_ret
    exact ⟨rfl, hB⟩
  by_cases h2 : 4194304 < r0
  · go_enter Try.func7, Try.ntmps7
    go_wp2_with (go_at_call 9; refine (HW.out _ (HM.out.below hB)).mono ?_; rintro e w' ⟨rfl, hb1⟩; replace hB := bt hB hb1)
    go_ret
    exact ⟨rfl, hB⟩
  obtain ⟨r, rfl⟩ : ∃ r : Nat, r0 = (r : Int) := ⟨r0.toNat, by omega⟩
  have hr : r ≤ 4194304 := by omega
  go_enter Try.func7, Try.ntmps7
  go_wp2
  go_loopw [3, 5] (fun d n wr => DigAt 10 r w d n wr) (fun d n _ => 2 * (intOf n).toNat + emp1 d)
  case atStart => exact ⟨⟨#[]⟩, r, rfl, rfl, by show 0 + r ≤ r + 1; omega, rfl, by decide, hB⟩
  case round =>
    obtain ⟨D, k, rfl, rfl, hs, hv, hh, hBr⟩ := hrel
    have hcont : (0 < k ∨ D.size = 0) → ∃ (C D2 : ByteArray), strOfNums [48 + (k : Int) % 10] = C ∧ C ++ D = D2 ∧ C.size + D.size ≤ 5000000 ∧ DigAt 10 r w (.string D2) (.int .i64 ((k : Int) / 10)) (wr.alloc (.cells #[.int .u8 (48 + (k : Int) % 10)] 5)) ∧ 2 * (intOf (.int .i64 ((k : Int) / 10))).toNat + emp1 (.string D2) < 2 * (intOf (.int .i64 (k : Int))).toNat + emp1 (.string D) := by
      intro hc
      have hb : isBs [48 + (k : Int) % 10] := by intro x hx; rw [List.mem_singleton] at hx; omega
      have hn : nums (strOfNums [48 + (k : Int) % 10] ++ D) = (48 + (k : Int) % 10) :: nums D := by rw [nums_appR, nums_strOfNums _ hb]; rfl
      have hsz : (strOfNums [48 + (k : Int) % 10] ++ D).size = D.size + 1 := by rw [← nums_length, hn, List.length_cons, nums_length]
      refine ⟨_, _, rfl, rfl, by rw [strOfNums_size]; simp; omega, ⟨_, k / 10, rfl, by congr 1, ?_, ?_, ?_, hBr.alloc hBr.size _⟩, ?_⟩
      · rw [hsz]; omega
      · rw [hn]
        refine val_step 10 _ ((k : Int) % 10) _ _ _ (worth_dec _ (by omega) (by omega)) (by omega) ?_
        rw [show ((k / 10 : Nat) : Int) * 10 + (k : Int) % 10 = (k : Int) by omega]
        exact hv
      · rw [hn, List.head?_cons]
        intro e
        injection e with e
        omega
      · rw [emp1_str, emp1_str, hsz, if_neg (by omega)]
        simp only [intOf]
        rcases hc with h | h
        · split <;> omega
        · rw [if_pos h]; omega
    have hcv := run_convert_bytes_arg (P := Try.prog) (wr.alloc (.cells #[.int .u8 (48 + (k : Int) % 10)] 5)) 37 5 Try.underlying37 Try.underlying5 wr.heap.size 0 1 1 [48 + (k : Int) % 10] rfl (fun i hi => by
      have : i = 0 := by simp at hi; omega
      subst this
      simp [World.cell?_alloc_mark]) 9 Try.underlying9
    by_cases hgo : 0 < k ∨ D.size = 0
    · obtain ⟨C, D2, hC, hD2, hl, hrel, hme⟩ := hcont hgo
      rw [hC] at hcv
      have HREL := Lib.hid hrel
      have HME := Lib.hid hme
      clear hcont hrel hme hv hh hC
      by_cases hk : 0 < k
      · have hki : (0 : Int) < (k : Int) := by omega
        clear hgo
        go_wp2
        exact ⟨HREL.out, HME.out⟩
      · have hki : ¬ (0 : Int) < (k : Int) := by omega
        have hE : D.toList.isEmpty = true := emptyL (hgo.resolve_left hk)
        clear hgo
        go_wp2
        exact ⟨HREL.out, HME.out⟩
    · rw [not_or] at hgo
      have hk0 : k = 0 := by omega
      have hE : D.toList.isEmpty = false := notEmptyL hgo.2
      subst hk0
      have hD0 : D.size ≠ 0 := hgo.2
      have hDs : D.size ≤ 4194305 := by omega
      clear hcont hcv hgo hs
      go_wp2
      go_loopw [4, 6] (fun d n wr2 => DigAt 16 r w d n wr2) (fun d n _ => 2 * (intOf n).toNat + emp1 d)
      case atStart => exact ⟨⟨#[]⟩, r, rfl, rfl, by show 0 + r ≤ r + 1; omega, rfl, by decide, hBr⟩
      case round =>
        obtain ⟨X, k, rfl, rfl, hs, hv2, hh2, hBr2⟩ := hrel
        have hcont : (0 < k ∨ X.size = 0) → ∃ (C D2 : ByteArray), (⟨#[48, 49, 50, 51, 52, 53, 54, 55, 56, 57, 97, 98, 99, 100, 101, 102]⟩ : ByteArray).extract (k % 16) (k % 16 + 1) = C ∧ C ++ X = D2 ∧ C.size + X.size ≤ 5000000 ∧ DigAt 16 r w (.string D2) (.int .i64 ((k : Int) / 16)) wr ∧ 2 * (intOf (.int .i64 ((k : Int) / 16))).toNat + emp1 (.string D2) < 2 * (intOf (.int .i64 (k : Int))).toNat + emp1 (.string X) := by
          intro hc
          obtain ⟨c, hcw, hcr, hce⟩ := hex_ext (k % 16) (by omega)
          have hb : isBs [c] := by intro x hx; rw [List.mem_singleton] at hx; omega
          have hn : nums (strOfNums [c] ++ X) = c :: nums X := by rw [nums_appR, nums_strOfNums _ hb]; rfl
          have hsz : (strOfNums [c] ++ X).size = X.size + 1 := by rw [← nums_length, hn, List.length_cons, nums_length]
          rw [hce]
          refine ⟨_, _, rfl, rfl, by rw [strOfNums_size]; simp; omega, ⟨_, k / 16, rfl, by congr 1, ?_, ?_, ?_, hBr2⟩, ?_⟩
          · rw [hsz]; omega
          · rw [hn]
            refine val_step 16 _ ((k % 16 : Nat) : Int) _ _ _ hcw (by omega) ?_
            rw [show ((k / 16 : Nat) : Int) * 16 + ((k % 16 : Nat) : Int) = (k : Int) by omega]
            exact hv2
          · rw [hn, List.head?_cons]
            intro e
            injection e with e
            omega
          · rw [emp1_str, emp1_str, hsz, if_neg (by omega)]
            simp only [intOf]
            rcases hc with h | h
            · split <;> omega
            · rw [if_pos h]; omega
        by_cases hgo : 0 < k ∨ X.size = 0
        · obtain ⟨C, D2, hC, hD2, hl, hrel, hme⟩ := hcont hgo
          have HREL := Lib.hid hrel
          have HME := Lib.hid hme
          clear hcont hrel hme hv2 hh2
          by_cases hk : 0 < k
          · have hki : (0 : Int) < (k : Int) := by omega
            clear hgo
            go_wp2
            exact ⟨HREL.out, HME.out⟩
          · have hki : ¬ (0 : Int) < (k : Int) := by omega
            have hE2 : X.toList.isEmpty = true := emptyL (hgo.resolve_left hk)
            clear hgo
            go_wp2
            exact ⟨HREL.out, HME.out⟩
        · rw [not_or] at hgo
          have hk0 : k = 0 := by omega
          have hE2 : X.toList.isEmpty = false := notEmptyL hgo.2
          subst hk0
          have hX0 : nums X ≠ [] := fun e => hgo.2 (by rw [← nums_length, e]; rfl)
          have hDn : nums D ≠ [] := fun e => hD0 (by rw [← nums_length, e]; rfl)
          have hXs : X.size ≤ 4194305 := by omega
          obtain ⟨U, hU⟩ : ∃ U : ByteArray, ⟨#[35]⟩ ++ D = U := ⟨_, rfl⟩
          obtain ⟨V, hV⟩ : ∃ U : ByteArray, ⟨#[35, 120]⟩ ++ X = U := ⟨_, rfl⟩
          have hU1 : (⟨#[35]⟩ : ByteArray).size + D.size ≤ 5000000 := by rw [show (⟨#[35]⟩ : ByteArray).size = 1 from rfl]; omega
          have hV1 : (⟨#[35, 120]⟩ : ByteArray).size + X.size ≤ 5000000 := by rw [show (⟨#[35, 120]⟩ : ByteArray).size = 2 from rfl]; omega
          have hUs : U.size ≤ 5000000 := by rw [← hU, ByteArray.size_append]; exact hU1
          have hVs : V.size ≤ 5000000 := by rw [← hV, ByteArray.size_append]; exact hV1
          have hnU : numN (nums U) = if chB r then ((r : Int), true, true) else (0, true, false) := by rw [← hU, nums_appR]; exact num_dec _ _ hDn hh hv
          have hnV : numN (nums V) = if chB r then ((r : Int), true, true) else (0, true, false) := by rw [← hV, nums_appR]; exact num_hex _ _ hX0 hv2
          have N1 := Lib.hid (fun u => refs_Number U u (by omega))
          have N2 := Lib.hid (fun u => refs_Number V u (by omega))
          rw [hnU] at N1
          rw [hnV] at N2
          clear hcont hgo hs hv hv2 hh hh2 hX0 hDn hnU hnV
          cases hch : chB r with
          | true =>
            rw [hch, if_pos rfl] at N1 N2
            unfold numV at N1 N2
            dsimp only at N1 N2
            have HC := Lib.hid hch
            clear hch
            go_wp2_with fail
            refine (N1.out _).mono ?_
            rintro e v1 ⟨rfl, hb1⟩
            go_wp2_with fail
            refine (N2.out _).mono ?_
            rintro e v2 ⟨rfl, hb2⟩
            replace hBr2 := bt hBr2 (bt hb1 hb2)
            go_wp2_with fail
            refine (ref09_Char _ _).mono ?_
            rw [HC.out]
            rintro e w' ⟨rfl, rfl⟩
            go_wp2_with fail
            refine (HW.out _ (HM.out.below hBr2)).mono ?_
            rintro e w' ⟨rfl, hb9⟩
            go_wp2
            go_ret
            exact ⟨rfl, bt hBr2 hb9⟩
          | false =>
            rw [hch, if_neg (by decide)] at N1 N2
            unfold numV at N1 N2
            dsimp only at N1 N2
            have HC := Lib.hid hch
            clear hch
            go_wp2_with fail
            refine (N1.out _).mono ?_
            rintro e v1 ⟨rfl, hb1⟩
            go_wp2_with fail
            refine (N2.out _).mono ?_
            rintro e v2 ⟨rfl, hb2⟩
            replace hBr2 := bt hBr2 (bt hb1 hb2)
            go_wp2_with fail
            refine (ref09_Char _ _).mono ?_
            rw [HC.out]
            rintro e w' ⟨rfl, rfl⟩
            go_wp2_with fail
            refine (HW.out _ (HM.out.below hBr2)).mono ?_
            rintro e w' ⟨rfl, hb9⟩
            go_wp2
            go_ret
            exact ⟨rfl, bt hBr2 hb9⟩
end Go.Proofs.Ytkdkoondchbekaa
