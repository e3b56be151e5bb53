/-
  Layer 5: the walks of Lower; the document's Lower.
-/
import Derived.Test.YtaheooedcjjckaaDoorLaC
import Derived.Test.YtaheooedcjjckaaDoorSl
namespace Go.Proofs.YtaheooedcjjckaaDoor
open Go.RowKit
def upB (c : Int) : Bool := decide (65 ≤ c) && decide (c ≤ 90)
theorem low_none (l : List Int) (h : l.any upB = false) : lowL l = l := by
  unfold lowL
  induction l with
  | nil => rfl
  | cons c t ih =>
    rw [List.any_cons, Bool.or_eq_false_iff] at h
    have hc : ¬ (65 ≤ c ∧ c ≤ 90) := by
      intro hh
      have := h.1
      unfold upB at this
      rw [decide_eq_true hh.1, decide_eq_true hh.2] at this
      cases this
    rw [List.map_cons, ih h.2, show lowB c = c from if_neg hc]
theorem lower1 (c : Int) (w : World) : Calls Tryd.prog 25 #[.int .u8 c] w fun e w' => e = .returned (.bool (upB c)) ∧ w = w' := by
  by_cases h1 : 65 ≤ c
  · have p1 := decide_eq_true h1
    have HE := Lib.hid (show upB c = decide (c ≤ 90) by unfold upB; rw [p1]; rfl)
    go_enter Tryd.func25, Tryd.ntmps25
    go_wp2
    go_ret
    exact ⟨ret_bool HE.out.symm, rfl⟩
  · have p1 := decide_eq_false h1
    have HE := Lib.hid (show upB c = false by unfold upB; rw [p1]; rfl)
    go_enter Tryd.func25, Tryd.ntmps25
    go_wp2
    go_ret
    exact ⟨ret_bool HE.out.symm, rfl⟩
theorem lower_index (p n cap : Nat) (xs : List Int) (hn : xs.length = n) (w : World) (hr : LowRow w p xs) (hl : n ≤ 1000000) :
    Calls Tryd.prog 29 #[.slice (some ⟨p, 0, none⟩) n cap, .func (.func 25) #[] #[]] w fun e w' => (∃ i : Int, e = .returned (.int .i64 i) ∧ decide (0 ≤ i) = xs.any upB) ∧ w = w' := by
  go_enter Tryd.func29, Tryd.ntmps29
  go_wp2_with fail
  go_loop [8] (fun i => ∃ k : Nat, i = .int .i64 k ∧ k ≤ n ∧ Hid (xs.any upB = (xs.drop k).any upB)) (fun i => n - (intOf i).toNat)
  case atStart => exact ⟨0, rfl, by omega, Lib.hid (by rw [List.drop_zero])⟩
  case round =>
    obtain ⟨k, rfl, hk, HQ⟩ := hrel
    by_cases hlt : k < n
    · have hca := hr.cellAt k (by omega)
      obtain ⟨c, hc⟩ : ∃ c, xs[k]'(by omega) = c := ⟨_, rfl⟩
      have hdr : xs.drop k = c :: xs.drop (k + 1) := by rw [← hc, List.drop_eq_getElem_cons (by omega)]
      rw [hc] at hca
      have H1 := Lib.hid (fun u => lower1 c u)
      cases hu : upB c with
      | true =>
        have HE := Lib.hid (show decide (0 ≤ (k : Int)) = xs.any upB by rw [HQ.out, hdr, List.any_cons, hu]; simp)
        rw [hu] at H1
        clear hc hdr hu
        go_wp2_with fail
        refine (H1.out _).mono ?_
        rintro e w' ⟨rfl, rfl⟩
        go_wp2_with fail
        go_ret
        exact ⟨⟨_, rfl, HE.out⟩, rfl⟩
      | false =>
        have HE := Lib.hid (show xs.any upB = (xs.drop (k + 1)).any upB by rw [HQ.out, hdr, List.any_cons, hu]; simp)
        rw [hu] at H1
        clear hc hdr hu
        go_wp2_with fail
        refine (H1.out _).mono ?_
        rintro e w' ⟨rfl, rfl⟩
        go_wp2_with fail
        exact ⟨⟨k + 1, by go_num, by omega, HE⟩, by simp [intOf]; omega⟩
    · have HE := Lib.hid (show decide ((0 : Int) ≤ -1) = xs.any upB by rw [HQ.out, List.drop_eq_nil_of_le (by omega)]; rfl)
      go_wp2_with fail
      go_ret
      exact ⟨⟨_, rfl, HE.out⟩, rfl⟩
theorem lower_contains (p n cap : Nat) (xs : List Int) (hn : xs.length = n) (w : World) (hr : LowRow w p xs) (hl : n ≤ 1000000) :
    Calls Tryd.prog 24 #[.slice (some ⟨p, 0, none⟩) n cap, .func (.func 25) #[] #[]] w fun e w' => e = .returned (.bool (xs.any upB)) ∧ w = w' := by
  have HI := Lib.hid (lower_index p n cap xs hn w hr hl)
  go_enter Tryd.func24, Tryd.ntmps24
  go_wp2_with fail
  refine HI.out.mono ?_
  rintro e w' ⟨⟨i, rfl, hi⟩, rfl⟩
  have HH := Lib.hid hi
  clear hi
  go_wp2
  go_ret
  exact ⟨ret_bool HH.out, rfl⟩
set_option maxRecDepth 100000 in
set_option maxHeartbeats 4000000 in
theorem label_Lower (s : ByteArray) (w : World) (hs : s.size ≤ 1000000) :
    Calls Tryd.prog 17 #[.string s] w fun e w' => e = .returned (.string (strOfNums (lowL (nums s)))) ∧ Below w.heap.size w w' := by
  have hcv := Lib.run_convert_string_bytes (P := Tryd.prog) w 9 33 5 s Tryd.underlying9 Tryd.underlying33 Tryd.underlying5
  obtain ⟨cap, hcap⟩ : ∃ cap, grownCap w s.size 0 5 = cap := ⟨_, rfl⟩
  have hrow := LowRow.made w 5 s
  have hbl := bytes_below w 5 s
  obtain ⟨w1, hw1⟩ : ∃ w1, Lib.bytesWorld w 5 s = w1 := ⟨_, rfl⟩
  rw [hcap, hw1] at hcv
  rw [hw1] at hrow hbl
  clear hw1 hcap
  obtain ⟨p, hp⟩ : ∃ p, w.heap.size = p := ⟨_, rfl⟩
  have HP := Lib.hid hp
  rw [hp] at hcv hrow hbl
  clear hp
  have HC := Lib.hid (lower_contains p s.size cap (nums s) (nums_length s) w1 hrow hs)
  cases hany : (nums s).any upB with
  | false =>
    have HL := Lib.hid (show strOfNums (lowL (nums s)) = s by rw [low_none _ hany, strOfNums_nums])
    rw [hany] at HC
    clear hany
    go_enter Tryd.func17, Tryd.ntmps17
    go_wp2_with fail
    refine HC.out.mono ?_
    rintro e w' ⟨rfl, rfl⟩
    go_wp2
    go_ret
    exact ⟨ret_str HL.out.symm, by rw [HP.out]; exact hbl⟩
  | true =>
    rw [hany] at HC
    clear hany
    go_enter Tryd.func17, Tryd.ntmps17
    go_wp2_with fail
    refine HC.out.mono ?_
    rintro e w' ⟨rfl, rfl⟩
    go_wp2
    go_loopw [14] (fun i wr => ∃ k : Nat, i = .int .i64 k ∧ k ≤ s.size ∧ LowRow wr p (fillL s k) ∧ Below p w1 wr) (fun i _ => s.size - (intOf i).toNat)
    case atStart => exact ⟨0, rfl, by omega, by rw [fillL_zero]; exact hrow, Below.refl _ _⟩
    case round =>
      obtain ⟨k, rfl, hk, hr, hb⟩ := hrel
      by_cases hlt : k < s.size
      · have hca := hr.cellAt k (by rw [fillL_len]; exact hlt)
        rw [fillL_at s k hlt] at hca
        have hfz := hr.frozenAt k (by rw [fillL_len]; exact hlt)
        have hsn := fillL_step s k hlt
        obtain ⟨c, hc⟩ : ∃ c, s[k].toNat = c := ⟨_, rfl⟩
        have hc256 : c < 256 := by rw [← hc]; exact byte256 s k hlt
        rw [hc] at hca hsn
        by_cases hu : 65 ≤ c ∧ c ≤ 90
        · obtain ⟨hu1, hu2⟩ := hu
          have hor := or32 c hu1 hu2
          have hst := hr.stored k ((c : Int) + 32)
          rw [show lowB (c : Int) = (c : Int) + 32 from if_pos (by omega)] at hsn
          rw [← hsn] at hst
          have HS := Lib.hid hst
          clear hsn hst hc
          have p1 := decide_eq_true (show (65 : Int) ≤ (c : Int) by omega)
          have p2 := decide_eq_true (show (c : Int) ≤ (90 : Int) by omega)
          go_wp2
          exact ⟨⟨k + 1, by go_num, by omega, HS.out, hb.setCell (Nat.le_refl _) _⟩, by simp [intOf]; omega⟩
        · rw [show lowB (c : Int) = (c : Int) from if_neg (by omega)] at hsn
          have hset : (fillL s k).set k (c : Int) = fillL s k := by
            have h4 := fillL_at s k hlt
            rw [hc] at h4
            rw [← h4, List.set_getElem_self]
          rw [hset] at hsn
          have hr' := hr
          rw [← hsn] at hr'
          have HS := Lib.hid hr'
          clear hsn hr' hset hc
          by_cases hv : 65 ≤ c
          · have p1 := decide_eq_true (show (65 : Int) ≤ (c : Int) by omega)
            have p2 := decide_eq_false (show ¬ (c : Int) ≤ (90 : Int) by omega)
            clear hu
            go_wp2
            exact ⟨⟨k + 1, by go_num, by omega, HS.out, hb⟩, by simp [intOf]; omega⟩
          · have p1 := decide_eq_false (show ¬ (65 : Int) ≤ (c : Int) by omega)
            clear hu
            go_wp2
            exact ⟨⟨k + 1, by go_num, by omega, HS.out, hb⟩, by simp [intOf]; omega⟩
      · obtain rfl : k = s.size := by omega
        rw [fillL_end] at hr
        have hcv2 := hr.conv s.size cap (by unfold lowL; rw [List.length_map, nums_length])
        go_wp2
        go_ret
        exact ⟨rfl, by rw [HP.out]; exact hbl.trans hb⟩
set_option maxHeartbeats 1000000 in
theorem ref05_Lower (s : ByteArray) (w : World) (hs : s.size ≤ 1000000) :
    Calls Tryd.prog 18 #[.string s] w fun e w' => e = .returned (.string (strOfNums (lowL (nums s)))) ∧ Below w.heap.size w w' := by
  go_enter Tryd.func18, Tryd.ntmps18
  go_wp2_with fail
  go_loopw [3, 4] (fun v i wr => ∃ k : Nat, i = .int .i64 k ∧ k ≤ s.size ∧ wr.ownsRow w.heap.size 5 1 v k ((lowL ((nums s).take k)).map (Value.int .u8)) ∧ Below w.heap.size w wr) (fun _ i _ => s.size - (intOf i).toNat)
  case atStart => exact ⟨0, rfl, by omega, World.ownsRow_nil _ _ _ _, Below.refl _ _⟩
  case round =>
    obtain ⟨k, rfl, hk, hrow, hb⟩ := hrel
    by_cases hlt : k < s.size
    · obtain ⟨c, hc⟩ : ∃ c : Int, (s[k].toNat : Int) = c := ⟨_, rfl⟩
      have hix := index_str s k hlt c k hc rfl
      have hc0 : 0 ≤ c := by omega
      have hc256 : c < 256 := by have := byte256 s k hlt; omega
      obtain ⟨x, hx⟩ : ∃ x, lowB c = x := ⟨_, rfl⟩
      obtain ⟨v', w', hrun, hro, hbo, _⟩ := app_u8 wr w.heap.size _ k _ hrow x (by omega) hb.size
      have HRO := Lib.hid (show w'.ownsRow w.heap.size 5 1 v' (k + 1) ((lowL ((nums s).take (k + 1))).map (Value.int .u8)) by
        rw [nums_take s k hlt, hc]
        unfold lowL at hro ⊢
        rw [List.map_append (f := lowB), List.map_cons, hx]
        exact hro)
      have HRUN := Lib.hid hrun
      clear hrun hro hc
      by_cases hu : 65 ≤ c ∧ c ≤ 90
      · obtain ⟨hu1, hu2⟩ := hu
        have p1 := decide_eq_true hu1
        have p2 := decide_eq_true hu2
        have hxx : x = c + 32 := by rw [← hx]; exact if_pos ⟨hu1, hu2⟩
        subst hxx
        have hwr : IntKind.u8.wrap (c + 32) = c + 32 := by rw [IntKind.wrap_u8]; omega
        clear hx
        go_wp2_with (at_builtin; refine wpList_append_run rfl _ _ _ _ rfl _ _ rfl rfl _ _ HRUN.out ?_)
        exact ⟨⟨k + 1, by go_num, by omega, HRO.out, hb.trans hbo⟩, by simp [intOf]; omega⟩
      · have hxx : x = c := by rw [← hx]; exact if_neg hu
        subst hxx
        clear hx
        by_cases hv : 65 ≤ x
        · have p1 := decide_eq_true hv
          have p2 := decide_eq_false (show ¬ x ≤ 90 by omega)
          clear hu
          go_wp2_with (at_builtin; refine wpList_append_run rfl _ _ _ _ rfl _ _ rfl rfl _ _ HRUN.out ?_)
          exact ⟨⟨k + 1, by go_num, by omega, HRO.out, hb.trans hbo⟩, by simp [intOf]; omega⟩
        · have p1 := decide_eq_false hv
          clear hu
          go_wp2_with (at_builtin; refine wpList_append_run rfl _ _ _ _ rfl _ _ rfl rfl _ _ HRUN.out ?_)
          exact ⟨⟨k + 1, by go_num, by omega, HRO.out, hb.trans hbo⟩, by simp [intOf]; omega⟩
    · obtain rfl : k = s.size := by omega
      rw [List.take_of_length_le (by rw [nums_length]; omega)] at hrow
      have hcv := conv_own _ _ _ _ _ hrow
      go_wp2
      go_ret
      exact ⟨rfl, hb⟩
end Go.Proofs.YtaheooedcjjckaaDoor
