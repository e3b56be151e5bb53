/-
  The document's Escape and Strict, of layer 13.
-/
import Derived.Test.YtkdkoondchbekaaRfM
namespace Go.Proofs.Ytkdkoondchbekaa
open Go.RowKit Go.Shelf
attribute [local go_sem] Oper.semAt_some
theorem ext_one (s : ByteArray) (k : Nat) (h : k < s.size) : s.extract k (k + 1) = strOfNums [(s[k].toNat : Int)] := by
  rw [ext_str, nums_drop s k h, show k + 1 - k = 1 by omega]
  rfl
set_option maxRecDepth 100000 in
set_option maxHeartbeats 4000000 in
theorem ref13_Escape (s : ByteArray) (q : Bool) (hs : s.size ≤ 500000) (w : World) :
    Calls Try.prog 16 #[.string s, .bool q] w fun e w' => e = .returned (.string (strOfNums (escN q (nums s)))) ∧ w = w' := by
  go_enter Try.func16, Try.ntmps16
  go_wp2
  go_loop [5, 6] (fun o i => ∃ k : Nat, o = .string (strOfNums (escN q ((nums s).take k))) ∧ i = .int .i64 k ∧ k ≤ s.size) (fun _ i => s.size - (intOf i).toNat)
  case atStart => exact ⟨0, rfl, rfl, by omega⟩
  case round =>
    obtain ⟨k, rfl, rfl, hk⟩ := hrel
    obtain ⟨O, hO⟩ : ∃ O, strOfNums (escN q ((nums s).take k)) = O := ⟨_, rfl⟩
    rw [hO]
    by_cases hlt : k < s.size
    · obtain ⟨c, hc⟩ : ∃ c : Int, (s[k].toNat : Int) = c := ⟨_, rfl⟩
      have hix := index_str s k hlt c k hc rfl
      have hln : (escN q ((nums s).take k)).length ≤ 3000000 := by have := esc_len6 q ((nums s).take k); rw [List.length_take, nums_length] at this; omega
      have hOs : O.size ≤ 3000000 := by rw [← hO, strOfNums_size]; exact hln
      have hst := escN_step q (nums s) k (by rw [nums_length]; exact hlt)
      rw [nums_at s k hlt, hc] at hst
      obtain ⟨O2, hO2⟩ : ∃ O2, strOfNums (escN q ((nums s).take (k + 1))) = O2 := ⟨_, rfl⟩
      obtain ⟨C, hC⟩ : ∃ C, strOfNums [c] = C := ⟨_, rfl⟩
      have hCs : C.size = 1 := by rw [← hC, strOfNums_size]; rfl
      have hex : s.extract k (k + 1) = C := by rw [ext_one s k hlt, hc, hC]
      have hOC : O.size + C.size ≤ 5000000 := by omega
      have hk1 : (k : Int) + 1 ≤ (s.size : Int) := by omega
      have hkk : (k : Int) ≤ (k : Int) + 1 := by omega
      have HF := Lib.hid (show Value.string O2 = .string (strOfNums (escN q ((nums s).take (k + 1)))) by rw [hO2])
      clear hln
      by_cases n0 : c = 38
      · have q0 : (c == 38) = true := by simpa using n0
        have hE : escC q c = nums ⟨#[38, 97, 109, 112, 59]⟩ := by rw [n0]; rfl
        have hadd : O ++ ⟨#[38, 97, 109, 112, 59]⟩ = O2 := by rw [← hO2, hst, hE, strOfNums_appR, hO, strOfNums_nums]
        have hbd : O.size + (⟨#[38, 97, 109, 112, 59]⟩ : ByteArray).size ≤ 5000000 := by rw [show (⟨#[38, 97, 109, 112, 59]⟩ : ByteArray).size = 5 from rfl]; omega
        clear hE hst hc hO hO2
        go_wp2
        exact ⟨⟨k + 1, HF.out, by go_num, by omega⟩, by simp [intOf]; omega⟩
      · have q0 : (c == 38) = false := by simpa using n0
        by_cases n1 : c = 60
        · have q1 : (c == 60) = true := by simpa using n1
          have hE : escC q c = nums ⟨#[38, 108, 116, 59]⟩ := by rw [n1]; rfl
          have hadd : O ++ ⟨#[38, 108, 116, 59]⟩ = O2 := by rw [← hO2, hst, hE, strOfNums_appR, hO, strOfNums_nums]
          have hbd : O.size + (⟨#[38, 108, 116, 59]⟩ : ByteArray).size ≤ 5000000 := by rw [show (⟨#[38, 108, 116, 59]⟩ : ByteArray).size = 4 from rfl]; omega
          clear hE hst hc hO hO2
          go_wp2
          exact ⟨⟨k + 1, HF.out, by go_num, by omega⟩, by simp [intOf]; omega⟩
        · have q1 : (c == 60) = false := by simpa using n1
          by_cases n2 : c = 62
          · have q2 : (c == 62) = true := by simpa using n2
            have hE : escC q c = nums ⟨#[38, 103, 116, 59]⟩ := by rw [n2]; rfl
            have hadd : O ++ ⟨#[38, 103, 116, 59]⟩ = O2 := by rw [← hO2, hst, hE, strOfNums_appR, hO, strOfNums_nums]
            have hbd : O.size + (⟨#[38, 103, 116, 59]⟩ : ByteArray).size ≤ 5000000 := by rw [show (⟨#[38, 103, 116, 59]⟩ : ByteArray).size = 4 from rfl]; omega
            clear hE hst hc hO hO2
            go_wp2
            exact ⟨⟨k + 1, HF.out, by go_num, by omega⟩, by simp [intOf]; omega⟩
          · have q2 : (c == 62) = false := by simpa using n2
            by_cases n3 : c = 13
            · have q3 : (c == 13) = true := by simpa using n3
              have hE : escC q c = nums ⟨#[38, 35, 49, 51, 59]⟩ := by rw [n3]; rfl
              have hadd : O ++ ⟨#[38, 35, 49, 51, 59]⟩ = O2 := by rw [← hO2, hst, hE, strOfNums_appR, hO, strOfNums_nums]
              have hbd : O.size + (⟨#[38, 35, 49, 51, 59]⟩ : ByteArray).size ≤ 5000000 := by rw [show (⟨#[38, 35, 49, 51, 59]⟩ : ByteArray).size = 5 from rfl]; omega
              clear hE hst hc hO hO2
              go_wp2
              exact ⟨⟨k + 1, HF.out, by go_num, by omega⟩, by simp [intOf]; omega⟩
            · have q3 : (c == 13) = false := by simpa using n3
              cases q with
              | false =>
                have hE : escC false c = [c] := by unfold escC; rw [if_neg n0, if_neg n1, if_neg n2, if_neg n3, if_neg (by simp), if_neg (by simp), if_neg (by simp)]
                have hadd : O ++ C = O2 := by rw [← hO2, hst, hE, strOfNums_appR, hO, hC]
                clear hE hst hc hO hO2 hC
                go_wp2
                exact ⟨⟨k + 1, HF.out, by go_num, by omega⟩, by simp [intOf]; omega⟩
              | true =>
                by_cases n4 : c = 34
                · have q4 : (c == 34) = true := by simpa using n4
                  have hE : escC true c = nums ⟨#[38, 113, 117, 111, 116, 59]⟩ := by rw [n4]; rfl
                  have hadd : O ++ ⟨#[38, 113, 117, 111, 116, 59]⟩ = O2 := by rw [← hO2, hst, hE, strOfNums_appR, hO, strOfNums_nums]
                  have hbd : O.size + (⟨#[38, 113, 117, 111, 116, 59]⟩ : ByteArray).size ≤ 5000000 := by rw [show (⟨#[38, 113, 117, 111, 116, 59]⟩ : ByteArray).size = 6 from rfl]; omega
                  clear hE hst hc hO hO2
                  go_wp2
                  exact ⟨⟨k + 1, HF.out, by go_num, by omega⟩, by simp [intOf]; omega⟩
                · have q4 : (c == 34) = false := by simpa using n4
                  by_cases n5 : c = 9
                  · have q5 : (c == 9) = true := by simpa using n5
                    have hE : escC true c = nums ⟨#[38, 35, 57, 59]⟩ := by rw [n5]; rfl
                    have hadd : O ++ ⟨#[38, 35, 57, 59]⟩ = O2 := by rw [← hO2, hst, hE, strOfNums_appR, hO, strOfNums_nums]
                    have hbd : O.size + (⟨#[38, 35, 57, 59]⟩ : ByteArray).size ≤ 5000000 := by rw [show (⟨#[38, 35, 57, 59]⟩ : ByteArray).size = 4 from rfl]; omega
                    clear hE hst hc hO hO2
                    go_wp2
                    exact ⟨⟨k + 1, HF.out, by go_num, by omega⟩, by simp [intOf]; omega⟩
                  · have q5 : (c == 9) = false := by simpa using n5
                    by_cases n6 : c = 10
                    · have q6 : (c == 10) = true := by simpa using n6
                      have hE : escC true c = nums ⟨#[38, 35, 49, 48, 59]⟩ := by rw [n6]; rfl
                      have hadd : O ++ ⟨#[38, 35, 49, 48, 59]⟩ = O2 := by rw [← hO2, hst, hE, strOfNums_appR, hO, strOfNums_nums]
                      have hbd : O.size + (⟨#[38, 35, 49, 48, 59]⟩ : ByteArray).size ≤ 5000000 := by rw [show (⟨#[38, 35, 49, 48, 59]⟩ : ByteArray).size = 5 from rfl]; omega
                      clear hE hst hc hO hO2
                      go_wp2
                      exact ⟨⟨k + 1, HF.out, by go_num, by omega⟩, by simp [intOf]; omega⟩
                    · have q6 : (c == 10) = false := by simpa using n6
                      have hE : escC true c = [c] := by unfold escC; rw [if_neg n0, if_neg n1, if_neg n2, if_neg n3, if_neg (fun h => n4 h.2), if_neg (fun h => n5 h.2), if_neg (fun h => n6 h.2)]
                      have hadd : O ++ C = O2 := by rw [← hO2, hst, hE, strOfNums_appR, hO, hC]
                      clear hE hst hc hO hO2 hC
                      go_wp2
                      exact ⟨⟨k + 1, HF.out, by go_num, by omega⟩, by simp [intOf]; omega⟩
    · have hall : (nums s).take k = nums s := List.take_of_length_le (by rw [nums_length]; omega)
      rw [hall] at hO
      have HO := Lib.hid hO
      clear hO
      go_wp2
      go_ret
      exact ⟨by rw [HO.out]; rfl, rfl⟩
set_option maxRecDepth 100000 in
set_option maxHeartbeats 4000000 in
theorem ref13_Strict (s : ByteArray) (hs : s.size ≤ 500000) (w : World) :
    Calls Try.prog 11 #[.string s] w fun e w' => e = .returned (strV (strictN 0 (nums s))) ∧ Below w.heap.size w w' := by
  go_enter Try.func11, Try.ntmps11
  go_wp2
  go_loopw [5, 6] (fun o i wr => ∃ (k : Nat) (y : List Int), o = .string (strOfNums y) ∧ i = .int .i64 k ∧ k ≤ s.size ∧ y.length ≤ 4 * k ∧ Hid (strictN 0 (nums s) = onR y (strictN k ((nums s).drop k))) ∧ Below w.heap.size w wr) (fun _ i _ => s.size - (intOf i).toNat)
  case atStart => exact ⟨0, [], rfl, rfl, by omega, by simp, Lib.hid (by rw [List.drop_zero]; cases strictN 0 (nums s) <;> rfl), Below.refl _ _⟩
  case round =>
    obtain ⟨k, y, rfl, rfl, hk, hyl, HQ, hB⟩ := hrel
    obtain ⟨O, hO⟩ : ∃ O, strOfNums y = O := ⟨_, rfl⟩
    rw [hO]
    have hOs : O.size = y.length := by rw [← hO, strOfNums_size]
    by_cases hlt : k < s.size
    · obtain ⟨c, hc⟩ : ∃ c : Int, (s[k].toNat : Int) = c := ⟨_, rfl⟩
      have hix := index_str s k hlt c k hc rfl
      have hdr := nums_drop s k hlt
      rw [hc] at hdr
      have hk1 : (k : Int) + 1 ≤ (s.size : Int) := by omega
      have hkk : (k : Int) ≤ (k : Int) + 1 := by omega
      by_cases h38 : c = 38
      · have q1 : (c == 38) = true := by simpa using h38
        have hdr38 : (nums s).drop k = 38 :: (nums s).drop (k + 1) := by rw [hdr, h38]
        have HEN := Lib.hid (fun u => ref13_end s k u (by omega) hlt)
        cases hen : endN ((nums s).drop (k + 1)) with
        | none =>
          have hek : endK (k + 1) ((nums s).drop (k + 1)) = -1 := by unfold endK; rw [hen]
          have HR := Lib.hid (show strictN 0 (nums s) = .inl k by rw [HQ.out, hdr38, strictN_ref, hen]; rfl)
          rw [hek] at HEN
          clear hek hen hdr38 hdr h38 hc hO
          go_wp2_with fail
          refine (HEN.out _).mono ?_
          rintro e w' ⟨rfl, rfl⟩
          go_wp2
          go_ret3
          exact ⟨by rw [HR.out]; rfl, hB⟩
        | some n =>
          have hek : endK (k + 1) ((nums s).drop (k + 1)) = ((n + (k + 1) : Nat) : Int) := by unfold endK; rw [hen]; rfl
          have hnl := endN_lt _ _ hen
          rw [List.length_drop, nums_length] at hnl
          obtain ⟨T, hT⟩ : ∃ T, s.extract (k + 1) (n + (k + 1)) = T := ⟨_, rfl⟩
          have hnT : nums T = ((nums s).drop (k + 1)).take n := by rw [← hT, num_ext, show n + (k + 1) - (k + 1) = n by omega]
          have hTs : T.size ≤ 500000 := by rw [← nums_length, hnT, List.length_take, List.length_drop, nums_length]; omega
          obtain ⟨n1, n2, n3, hnu⟩ : ∃ a b c, numN (nums T) = (a, b, c) := ⟨_, _, _, rfl⟩
          obtain ⟨m1, m2, hna⟩ : ∃ a b, namN (nums T) = (a, b) := ⟨_, _, rfl⟩
          have HNU := Lib.hid (fun u => by have h := ref13_Number T u (by omega); rw [hnu] at h; exact h)
          have HNA := Lib.hid (fun u => by have h := ref13_Named T u; rw [hna] at h; exact h)
          unfold numV at HNU
          dsimp only at HNU
          have hq2 : strictN 0 (nums s) = onR y (if (scaN (nums T)).2 then onR (encN (scaN (nums T)).1) (strictN (k + n + 2) ((nums s).drop (k + n + 2))) else .inl k) := by
            rw [HQ.out, hdr38, strictN_ref, hen, hnT]
            dsimp only
            rw [List.drop_drop, show k + 1 + (n + 1) = k + n + 2 by omega]
          rw [hek] at HEN
          have hto1 : (k : Int) + 1 ≤ ((n + (k + 1) : Nat) : Int) := by omega
          have hto2 : ((n + (k + 1) : Nat) : Int) ≤ (s.size : Int) := by omega
          have hto3 : ¬ ((n + (k + 1) : Nat) : Int) < 0 := by omega
          have HP := Lib.hid (fun (r : Int) (u : World) => ref02_Put r u)
          have hstep : ∀ r, strictN 0 (nums s) = onR y (onR (encN r) (strictN (k + n + 2) ((nums s).drop (k + n + 2)))) → ∃ C O2, encS r = C ∧ O ++ C = O2 ∧ O.size + C.size ≤ 50000000 ∧ ∀ u, Below w.heap.size w u →
              ∃ (k' : Nat) (y' : List Int), Value.string O2 = .string (strOfNums y') ∧ Value.int .i64 (((n + (k + 1) : Nat) : Int) + 1) = .int .i64 k' ∧ k' ≤ s.size ∧ y'.length ≤ 4 * k' ∧ Hid (strictN 0 (nums s) = onR y' (strictN k' ((nums s).drop k'))) ∧ Below w.heap.size w u := by
            intro r h
            have hl := encN_len r
            refine ⟨_, _, rfl, rfl, by rw [encS_size]; omega, fun u hu => ⟨k + n + 2, y ++ encN r, by rw [strOfNums_appR, hO]; rfl, by congr 1; omega, by omega, by rw [List.length_append]; omega, Lib.hid (by rw [h, onR_onR]), hu⟩⟩
          have HST := Lib.hid hstep
          by_cases h3 : n3 = true
          · obtain rfl := h3
            obtain ⟨C, O2, hC, hO2, hsz, hnext⟩ := HST.out n1 (by rw [hq2]; unfold scaN; rw [hnu]; rfl)
            have HN := Lib.hid hnext
            have HC := Lib.hid hC
            clear hstep hq2 hnext hnu hna hnT hen hek hdr38 hdr h38 hc hC hO
            go_wp2_with fail
            refine (HEN.out _).mono ?_
            rintro e w' ⟨rfl, rfl⟩
            go_wp2_with fail
            refine (HNU.out _).mono ?_
            rintro e w' ⟨rfl, rfl⟩
            go_wp2_with fail
            refine (HP.out _ _).mono ?_
            rintro e w3 ⟨rfl, hb3⟩
            rw [HC.out]
            go_wp2
            exact ⟨HN.out _ (bt hB hb3), by simp [intOf]; omega⟩
          · have h3 : n3 = false := by simpa using h3
            subst h3
            by_cases h4 : m2 = true
            · obtain rfl := h4
              obtain ⟨C, O2, hC, hO2, hsz, hnext⟩ := HST.out m1 (by rw [hq2]; unfold scaN; rw [hnu, hna]; rfl)
              have HN := Lib.hid hnext
              have HC := Lib.hid hC
              clear hstep hq2 hnext hnu hna hnT hen hek hdr38 hdr h38 hc hC hO
              go_wp2_with fail
              refine (HEN.out _).mono ?_
              rintro e w' ⟨rfl, rfl⟩
              go_wp2_with fail
              refine (HNU.out _).mono ?_
              rintro e w' ⟨rfl, rfl⟩
              go_wp2_with fail
              refine (HNA.out _).mono ?_
              rintro e w' ⟨rfl, rfl⟩
              go_wp2_with fail
              refine (HP.out _ _).mono ?_
              rintro e w3 ⟨rfl, hb3⟩
              rw [HC.out]
              go_wp2
              exact ⟨HN.out _ (bt hB hb3), by simp [intOf]; omega⟩
            · have h4 : m2 = false := by simpa using h4
              subst h4
              have HR := Lib.hid (show strictN 0 (nums s) = .inl k by rw [hq2]; unfold scaN; rw [hnu, hna]; rfl)
              clear hstep hq2 hnu hna hnT hen hek hdr38 hdr h38 hc hO
              go_wp2_with fail
              refine (HEN.out _).mono ?_
              rintro e w' ⟨rfl, rfl⟩
              go_wp2_with fail
              refine (HNU.out _).mono ?_
              rintro e w' ⟨rfl, rfl⟩
              go_wp2_with fail
              refine (HNA.out _).mono ?_
              rintro e w' ⟨rfl, rfl⟩
              go_wp2
              go_ret3
              exact ⟨by rw [HR.out]; rfl, hB⟩
      · have q1 : (c == 38) = false := by simpa using h38
        obtain ⟨C, hC⟩ : ∃ C, strOfNums [c] = C := ⟨_, rfl⟩
        have hCs : C.size = 1 := by rw [← hC, strOfNums_size]; rfl
        have hex : s.extract k (k + 1) = C := by rw [ext_one s k hlt, hc, hC]
        have hOC : O.size + C.size ≤ 50000000 := by omega
        obtain ⟨O2, hO2⟩ : ∃ O2, O ++ C = O2 := ⟨_, rfl⟩
        have HN := Lib.hid (show ∃ (k' : Nat) (y' : List Int), Value.string O2 = .string (strOfNums y') ∧ Value.int .i64 ((k : Int) + 1) = .int .i64 k' ∧ k' ≤ s.size ∧ y'.length ≤ 4 * k' ∧ Hid (strictN 0 (nums s) = onR y' (strictN k' ((nums s).drop k'))) ∧ Below w.heap.size w wr from
          ⟨k + 1, y ++ [c], by rw [strOfNums_appR, hO, hC, hO2], rfl, by omega, by rw [List.length_append]; simp; omega, Lib.hid (by rw [HQ.out, hdr, strictN_char k _ h38, onR_onR]), hB⟩)
        clear hdr h38 hc hO hC
        go_wp2
        exact ⟨HN.out, by simp [intOf]; omega⟩
    · have HR := Lib.hid (show strictN 0 (nums s) = .inr y by rw [HQ.out, nums_drop_end s k (by omega), strictN_nil]; simp [onR])
      have HO := Lib.hid hO
      clear hO
      go_wp2
      go_ret3
      exact ⟨by rw [HR.out, ← HO.out]; rfl, hB⟩
end Go.Proofs.Ytkdkoondchbekaa
