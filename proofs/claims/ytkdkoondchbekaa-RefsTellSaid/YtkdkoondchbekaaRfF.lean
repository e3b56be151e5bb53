/-
  The walks of refs.Escape and of the document's.
-/
import Derived.Test.YtkdkoondchbekaaRfE
import Derived.Test.YtkdkoondchbekaaBy
namespace Go.Proofs.Ytkdkoondchbekaa
open Go.RowKit Go.Shelf
attribute [local go_sem] Oper.semAt_some
theorem escN_step (q : Bool) (l : List Int) (k : Nat) (h : k < l.length) : escN q (l.take (k + 1)) = escN q (l.take k) ++ escC q l[k] := by
  rw [List.take_succ_eq_append_getElem h, esc_app]
  simp [escN]
set_option maxRecDepth 100000 in
set_option maxHeartbeats 4000000 in
theorem refs_Escape (s : ByteArray) (q : Bool) (hs : s.size ≤ 500000) (w : World) :
    Calls Try.prog 15 #[.string s, .bool q] w fun e w' => e = .returned (.string (strOfNums (escN q (nums s)))) ∧ Below w.heap.size w w' := by
  obtain ⟨w1, hw1⟩ : ∃ x, w.alloc (.cells #[.pointer none, .slice none 0 0] 46) = x := ⟨_, rfl⟩
  have s1 : w1.heap.size = w.heap.size + 1 := by rw [← hw1, World.size_alloc]
  have hbl1 : Below w.heap.size w w1 := by rw [← hw1]; exact (Below.refl _ w).alloc (Nat.le_refl _) _
  have bD : w1.heap[w.heap.size]? = some (.cells #[.pointer none, .slice none 0 0] 46 (0, 0)) := by rw [← hw1]; exact heap_alloc_new w _
  have hcv := Lib.run_convert_string_bytes (P := Try.prog) w1 9 37 5 s Try.underlying9 Try.underlying37 Try.underlying5
  have hrow := LowRow.made w1 5 s
  have hbl := bytes_below w1 5 s
  have hss : w.heap.size + 2 ≤ (Lib.bytesWorld w1 5 s).heap.size := by rw [Lib.bytesWorld_size, s1]; omega
  obtain ⟨cap, hcap⟩ : ∃ cap, grownCap w1 s.size 0 5 = cap := ⟨_, rfl⟩
  obtain ⟨w2, hw2⟩ : ∃ w2, Lib.bytesWorld w1 5 s = w2 := ⟨_, rfl⟩
  rw [hcap, hw2] at hcv
  rw [hw2] at hrow hbl hss
  clear hw2 hcap
  rw [s1] at hcv hrow hbl
  have bD2 := (hbl.block w.heap.size (by omega)).trans bD
  have hB2 : Below w.heap.size w w2 := hbl1.trans (hbl.mono (by omega))
  rw [← hw1] at hcv
  clear bD hbl hbl1 s1 hw1
  go_enter Try.func15, Try.ntmps15
  go_wp2
  go_loopw [11] (fun i wr => ∃ k : Nat, i = .int .i64 k ∧ k ≤ s.size ∧ BdZ wr w.heap.size (w.heap.size + 2) (escN q ((nums s).take k)) ∧ LowRow wr (w.heap.size + 1) (nums s) ∧ w.heap.size + 2 ≤ wr.heap.size ∧ Below w.heap.size w wr) (fun i _ => s.size - (intOf i).toNat)
  case atStart => exact ⟨0, rfl, by omega, BdAt.new0 _ _ _ bD2 (by omega), hrow, hss, hB2⟩
  case round =>
    obtain ⟨k, rfl, hk, hbd, hr, hsz, hB⟩ := hrel
    by_cases hlt : k < s.size
    · have hca := hr.cellAt k (by rw [nums_length]; exact hlt)
      obtain ⟨c, hc⟩ : ∃ c : Int, (s[k].toNat : Int) = c := ⟨_, rfl⟩
      rw [nums_at s k hlt, hc] at hca
      have hln : (escN q ((nums s).take k)).length ≤ 3000000 := by have := esc_len6 q ((nums s).take k); rw [List.length_take, nums_length] at this; omega
      have hst := escN_step q (nums s) k (by rw [nums_length]; exact hlt)
      rw [nums_at s k hlt, hc] at hst
      have HW := Lib.hid (fun (P : ByteArray) (hP : P.size ≤ 6) => bd_writeK w.heap.size (w.heap.size + 2) _ P wr hbd (by omega) hsz)
      have HBY := Lib.hid (bd_byteK w.heap.size (w.heap.size + 2) _ c wr hbd (by omega) hsz)
      have FIN : ∀ (w' : World) (x : List Int), BdZ w' w.heap.size (w.heap.size + 2) (escN q ((nums s).take k) ++ x) → escC q c = x → Kept wr w' w.heap.size (w.heap.size + 2) → BdZ w' w.heap.size (w.heap.size + 2) (escN q ((nums s).take (k + 1))) ∧ LowRow w' (w.heap.size + 1) (nums s) ∧ w.heap.size + 2 ≤ w'.heap.size ∧ Below w.heap.size w w' := by
        rintro w' x h1 rfl h3
        refine ⟨by rw [hst]; exact h1, ?_, Nat.le_trans hsz h3.bel.size, hB.trans h3.bel⟩
        obtain ⟨C, e, m, h4, h5⟩ := hr
        exact ⟨C, e, m, (h3.low (w.heap.size + 1) (by omega) (by omega)).trans h4, h5⟩
      have HST := Lib.hid hst
      clear hst hbd
      by_cases n0 : c = 38
      · have q0 : (c == 38) = true := by simpa using n0
        have HE := Lib.hid (show escC q c = nums ⟨#[38, 97, 109, 112, 59]⟩ by rw [n0]; rfl)
        clear hc
        go_wp2_with (go_at_call 25; refine (HW.out ⟨#[38, 97, 109, 112, 59]⟩ (by decide)).mono ?_; rintro e w2 ⟨rfl, hb2, hk2⟩)
        obtain ⟨g1, g2, g3, g4⟩ := FIN w2 _ hb2 HE.out hk2
        exact ⟨⟨k + 1, by go_num, by omega, g1, g2, g3, g4⟩, by simp [intOf]; omega⟩
      · have q0 : (c == 38) = false := by simpa using n0
        by_cases n1 : c = 60
        · have q1 : (c == 60) = true := by simpa using n1
          have HE := Lib.hid (show escC q c = nums ⟨#[38, 108, 116, 59]⟩ by rw [n1]; rfl)
          clear hc
          go_wp2_with (go_at_call 25; refine (HW.out ⟨#[38, 108, 116, 59]⟩ (by decide)).mono ?_; rintro e w2 ⟨rfl, hb2, hk2⟩)
          obtain ⟨g1, g2, g3, g4⟩ := FIN w2 _ hb2 HE.out hk2
          exact ⟨⟨k + 1, by go_num, by omega, g1, g2, g3, g4⟩, by simp [intOf]; omega⟩
        · have q1 : (c == 60) = false := by simpa using n1
          by_cases n2 : c = 62
          · have q2 : (c == 62) = true := by simpa using n2
            have HE := Lib.hid (show escC q c = nums ⟨#[38, 103, 116, 59]⟩ by rw [n2]; rfl)
            clear hc
            go_wp2_with (go_at_call 25; refine (HW.out ⟨#[38, 103, 116, 59]⟩ (by decide)).mono ?_; rintro e w2 ⟨rfl, hb2, hk2⟩)
            obtain ⟨g1, g2, g3, g4⟩ := FIN w2 _ hb2 HE.out hk2
            exact ⟨⟨k + 1, by go_num, by omega, g1, g2, g3, g4⟩, by simp [intOf]; omega⟩
          · have q2 : (c == 62) = false := by simpa using n2
            by_cases n3 : c = 13
            · have q3 : (c == 13) = true := by simpa using n3
              have HE := Lib.hid (show escC q c = nums ⟨#[38, 35, 49, 51, 59]⟩ by rw [n3]; rfl)
              clear hc
              go_wp2_with (go_at_call 25; refine (HW.out ⟨#[38, 35, 49, 51, 59]⟩ (by decide)).mono ?_; rintro e w2 ⟨rfl, hb2, hk2⟩)
              obtain ⟨g1, g2, g3, g4⟩ := FIN w2 _ hb2 HE.out hk2
              exact ⟨⟨k + 1, by go_num, by omega, g1, g2, g3, g4⟩, by simp [intOf]; omega⟩
            · have q3 : (c == 13) = false := by simpa using n3
              cases q with
              | false =>
                have HE := Lib.hid (show escC false c = [c] by unfold escC; rw [if_neg n0, if_neg n1, if_neg n2, if_neg n3, if_neg (by simp), if_neg (by simp), if_neg (by simp)])
                clear hc
                go_wp2_with (go_at_call 33; refine HBY.out.mono ?_; rintro e w2 ⟨rfl, hb2, hk2⟩)
                obtain ⟨g1, g2, g3, g4⟩ := FIN w2 _ hb2 HE.out hk2
                exact ⟨⟨k + 1, by go_num, by omega, g1, g2, g3, g4⟩, by simp [intOf]; omega⟩
              | true =>
                by_cases n4 : c = 34
                · have q4 : (c == 34) = true := by simpa using n4
                  have HE := Lib.hid (show escC true c = nums ⟨#[38, 113, 117, 111, 116, 59]⟩ by rw [n4]; rfl)
                  clear hc
                  go_wp2_with (go_at_call 25; refine (HW.out ⟨#[38, 113, 117, 111, 116, 59]⟩ (by decide)).mono ?_; rintro e w2 ⟨rfl, hb2, hk2⟩)
                  obtain ⟨g1, g2, g3, g4⟩ := FIN w2 _ hb2 HE.out hk2
                  exact ⟨⟨k + 1, by go_num, by omega, g1, g2, g3, g4⟩, by simp [intOf]; omega⟩
                · have q4 : (c == 34) = false := by simpa using n4
                  by_cases n5 : c = 9
                  · have q5 : (c == 9) = true := by simpa using n5
                    have HE := Lib.hid (show escC true c = nums ⟨#[38, 35, 57, 59]⟩ by rw [n5]; rfl)
                    clear hc
                    go_wp2_with (go_at_call 25; refine (HW.out ⟨#[38, 35, 57, 59]⟩ (by decide)).mono ?_; rintro e w2 ⟨rfl, hb2, hk2⟩)
                    obtain ⟨g1, g2, g3, g4⟩ := FIN w2 _ hb2 HE.out hk2
                    exact ⟨⟨k + 1, by go_num, by omega, g1, g2, g3, g4⟩, by simp [intOf]; omega⟩
                  · have q5 : (c == 9) = false := by simpa using n5
                    by_cases n6 : c = 10
                    · have q6 : (c == 10) = true := by simpa using n6
                      have HE := Lib.hid (show escC true c = nums ⟨#[38, 35, 49, 48, 59]⟩ by rw [n6]; rfl)
                      clear hc
                      go_wp2_with (go_at_call 25; refine (HW.out ⟨#[38, 35, 49, 48, 59]⟩ (by decide)).mono ?_; rintro e w2 ⟨rfl, hb2, hk2⟩)
                      obtain ⟨g1, g2, g3, g4⟩ := FIN w2 _ hb2 HE.out hk2
                      exact ⟨⟨k + 1, by go_num, by omega, g1, g2, g3, g4⟩, by simp [intOf]; omega⟩
                    · have q6 : (c == 10) = false := by simpa using n6
                      have HE := Lib.hid (show escC true c = [c] by unfold escC; rw [if_neg n0, if_neg n1, if_neg n2, if_neg n3, if_neg (fun h => n4 h.2), if_neg (fun h => n5 h.2), if_neg (fun h => n6 h.2)])
                      clear hc
                      go_wp2_with (go_at_call 33; refine HBY.out.mono ?_; rintro e w2 ⟨rfl, hb2, hk2⟩)
                      obtain ⟨g1, g2, g3, g4⟩ := FIN w2 _ hb2 HE.out hk2
                      exact ⟨⟨k + 1, by go_num, by omega, g1, g2, g3, g4⟩, by simp [intOf]; omega⟩
    · have hall : (nums s).take k = nums s := List.take_of_length_le (by rw [nums_length]; omega)
      rw [hall] at hbd
      have HS := Lib.hid (bd_stringK w.heap.size (w.heap.size + 2) _ wr hbd (esc_isBs q (nums_isBs s)))
      clear hbd hall
      go_wp2_with (go_at_call 28; refine HS.out.mono ?_; rintro e w3 ⟨rfl, hb3, _, _⟩)
      go_ret
      exact ⟨rfl, hB.trans hb3⟩
end Go.Proofs.Ytkdkoondchbekaa
