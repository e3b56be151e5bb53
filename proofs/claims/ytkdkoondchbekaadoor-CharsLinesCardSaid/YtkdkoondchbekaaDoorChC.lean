/-
  The walks of the reference's Plain, Split, Bad, Blank, Take, Lines; chars' Blank.
-/
import Derived.Test.YtkdkoondchbekaaDoorChA
import Derived.Test.YtkdkoondchbekaaDoorU8D
import Derived.Test.YtkdkoondchbekaaDoorBy
namespace Go.Proofs.YtkdkoondchbekaaDoor
open Go.RowKit
/-- a plain name, by its scalars. -/
theorem allP_idx (f : Int → Bool) : ∀ (l : List (Int × Nat)), (∀ p ∈ l, 1 ≤ p.2) → (allP (frQ f) 0 l = true ↔ ∀ i (h : i < (l.map (·.1)).length), frQ f i (l.map (·.1))[i] = true)
  | [], _ => by simp [allP]
  | p :: r, h => by
    have h1 := h p (List.mem_cons_self ..)
    rw [allP, allP_fr f (0 + p.2) r (by omega) fun q hq => h q (List.mem_cons_of_mem _ hq), Bool.and_eq_true, List.all_eq_true]
    constructor
    · rintro ⟨a, b⟩ i hi
      cases i with
      | zero => exact a
      | succ i =>
        have hi' : i < r.length := by simpa using hi
        have := b r[i] (List.getElem_mem hi')
        simp [frQ, this]
    · intro k
      refine ⟨k 0 (by simp), fun q hq => ?_⟩
      obtain ⟨i, hi, rfl⟩ := List.getElem_of_mem hq
      have := k (i + 1) (by simpa using hi)
      simp [frQ] at this
      exact this
theorem plain_idx (l : List Int) (h0 : l ≠ []) (ho : okAll l = true) : plainN l = true ↔ ∀ i (h : i < (scalL l).length), frQ fuB i (scalL l)[i] = true := by
  have hs : scalL l = (pieces l).map (·.1) := by unfold scalL; rw [if_pos ho]
  unfold plainN
  rw [decide_eq_true h0, Bool.true_and, front_all, hs]
  exact allP_idx fuB _ (pieces_pos l)
theorem plain_bad (l : List Int) (ho : okAll l = false) : plainN l = false := by
  cases h : plainN l with
  | false => rfl
  | true =>
    unfold plainN at h
    rw [Bool.and_eq_true, front_all] at h
    rw [ok_of_ch (fun r e => fu_ch e) (allP_mem (fun _ _ e => frQ_fu e) 0 _ h.2)] at ho
    cases ho
theorem plain_at (l : List Int) (i : Nat) (hi : i < (scalL l).length) (h : frQ fuB i (scalL l)[i] = false) : plainN l = false := by
  cases hp : plainN l with
  | false => rfl
  | true =>
    have h0 : l ≠ [] := by intro e; rw [e] at hp; exact absurd hp (by decide)
    have ho : okAll l = true := by
      cases e : okAll l with
      | true => rfl
      | false => rw [plain_bad l e] at hp; cases hp
    rw [(plain_idx l h0 ho).1 hp i hi] at h; cases h
theorem toList_nil {s : ByteArray} (h : s.size = 0) : s.toList = [] := by rw [ByteArray.toList_eq]; exact List.eq_nil_of_length_eq_zero (by rw [Array.length_toList]; exact h)
theorem toList_ne {s : ByteArray} (h : s.size ≠ 0) : s.toList ≠ [] := by
  rw [ByteArray.toList_eq]
  intro e
  apply h
  have := congrArg List.length e
  rw [Array.length_toList] at this
  exact this
theorem isEmpty_ne {s : ByteArray} (h : s.size ≠ 0) : s.toList.isEmpty = false := by
  cases hl : s.toList with
  | nil => exact absurd hl (toList_ne h)
  | cons a b => rfl
theorem nums_nil {s : ByteArray} (h : s.size = 0) : nums s = [] := List.eq_nil_of_length_eq_zero (by rw [nums_length]; exact h)
theorem nums_ne {s : ByteArray} (h : s.size ≠ 0) : nums s ≠ [] := fun e => h (by have := nums_length s; rw [e] at this; exact this.symm)
set_option maxHeartbeats 2000000 in
theorem ref09_Plain (s : ByteArray) (w : World) (hs : s.size ≤ 137438953472) :
    Calls Tryd.prog 26 #[.string s] w fun e w' => e = .returned (.bool (plainN (nums s))) ∧ Below w.heap.size w w' := by
  by_cases h : s.size = 0
  · have hs0 := toList_nil h
    have HP := Lib.hid (show plainN (nums s) = false by rw [nums_nil h]; rfl)
    go_enter Tryd.func26, Tryd.ntmps26
    go_wp2_with fail
    go_ret
    exact ⟨ret_bool HP.out.symm, Below.refl _ _⟩
  · have hs0 := isEmpty_ne h
    have h0 := nums_ne h
    cases ho : okAll (nums s) with
    | false =>
      have HO := Lib.hid ho
      have HP := Lib.hid (plain_bad _ ho)
      clear ho
      go_enter Tryd.func26, Tryd.ntmps26
      go_wp2_with fail
      refine (ref02_Valid s _ (by omega)).mono ?_
      rw [HO.out]
      rintro e w1 ⟨rfl, hb1⟩
      go_wp2_with fail
      go_ret
      exact ⟨ret_bool HP.out.symm, hb1⟩
    | true =>
      have HO := Lib.hid ho
      have HI := Lib.hid (plain_idx _ h0 ho)
      have HA := Lib.hid (plain_at (nums s))
      have hln : (scalL (nums s)).length ≤ s.size := by
        unfold scalL
        rw [if_pos ho, List.length_map]
        have := pieces_len (nums s).length (nums s)
        rw [nums_length] at this
        unfold pieces
        rw [nums_length]
        exact this
      obtain ⟨xs, hxs⟩ : ∃ xs, scalL (nums s) = xs := ⟨_, rfl⟩
      rw [hxs] at HI HA hln
      have HXS := Lib.hid hxs
      clear ho h0 hxs
      go_enter Tryd.func26, Tryd.ntmps26
      go_wp2_with fail
      refine (ref02_Valid s _ (by omega)).mono ?_
      rw [HO.out]
      rintro e w1 ⟨rfl, hb1⟩
      go_wp2_with fail
      refine (ref02_Scalars s _ (by omega)).mono ?_
      rw [HO.out, HXS.out]
      rintro e w2 ⟨v, rfl, ho2, hb2⟩
      have hb12 := hb1.trans (hb2.mono hb1.size)
      have hr : Reads w2.heap.size w2 v (xs.map (Value.int .i64)) := Reads.of_own ho2 (by unfold maxLen; omega)
      obtain ⟨a, cap, rfl, hl, hc⟩ := hr.open
      have HC := Lib.hid hc
      clear ho2 hr hc hl
      go_wp2_with fail
      go_loop [5] (fun i => ∃ k : Nat, i = .int .i64 k ∧ k ≤ xs.length ∧ (∀ j (h : j < xs.length), j < k → frQ fuB j xs[j] = true)) (fun i => xs.length - (intOf i).toNat)
      case atStart => exact ⟨0, rfl, by omega, fun j _ h => by omega⟩
      case round =>
        obtain ⟨k, rfl, hk, hyes⟩ := hrel
        have HY := Lib.hid hyes
        clear hyes
        by_cases hlt : k < xs.length
        · obtain ⟨b, off, rfl, hbB, hcx⟩ := HC.out k hlt
          obtain ⟨x, hx⟩ : ∃ x, xs[k] = x := ⟨_, rfl⟩
          rw [hx] at hcx
          cases hq : frQ fuB k x with
          | false =>
            have HP := Lib.hid (HA.out k hlt (by rw [hx]; exact hq))
            by_cases hk0 : k = 0
            · subst hk0
              rw [Nat.add_zero] at hcx
              cases hfi : fiB x with
              | false =>
                have HF := Lib.hid hfi
                clear hq hfi hx
                go_wp2_with (first | (go_at_call 21; refine (ref09_First x _).mono ?_; rw [HF.out]; rintro e w' ⟨rfl, rfl⟩) | (go_at_call 23; refine (ref09_Further x _).mono ?_; rintro e w' ⟨rfl, rfl⟩))
                go_ret
                exact ⟨ret_bool HP.out.symm, hb12⟩
              | true =>
                have HF := Lib.hid hfi
                have HU := Lib.hid (show fuB x = false by unfold frQ at hq; rw [hfi] at hq; simpa using hq)
                clear hq hfi hx
                go_wp2_with (first | (go_at_call 21; refine (ref09_First x _).mono ?_; rw [HF.out]; rintro e w' ⟨rfl, rfl⟩) | (go_at_call 23; refine (ref09_Further x _).mono ?_; rw [HU.out]; rintro e w' ⟨rfl, rfl⟩))
                go_ret
                exact ⟨ret_bool HP.out.symm, hb12⟩
            · have HU := Lib.hid (show fuB x = false by unfold frQ at hq; rw [decide_eq_true hk0] at hq; simpa using hq)
              have hk1 : ((k : Int) == 0) = false := by simp; omega
              clear hq hx
              go_wp2_with (first | (go_at_call 23; refine (ref09_Further x _).mono ?_; rw [HU.out]; rintro e w' ⟨rfl, rfl⟩))
              go_ret
              exact ⟨ret_bool HP.out.symm, hb12⟩
          | true =>
            have HN : Hid (∀ j (h : j < xs.length), j < k + 1 → frQ fuB j xs[j] = true) := Lib.hid (by
              intro j hj hjk
              by_cases e : j = k
              · subst e; rw [hx]; exact hq
              · exact HY.out j hj (by omega))
            have HU := Lib.hid (show fuB x = true from frQ_fu hq)
            by_cases hk0 : k = 0
            · subst hk0
              rw [Nat.add_zero] at hcx
              have HF := Lib.hid (show fiB x = true by unfold frQ at hq; rw [Bool.and_eq_true] at hq; simpa using hq.1)
              clear hq hx
              go_wp2_with (first | (go_at_call 21; refine (ref09_First x _).mono ?_; rw [HF.out]; rintro e w' ⟨rfl, rfl⟩) | (go_at_call 23; refine (ref09_Further x _).mono ?_; rw [HU.out]; rintro e w' ⟨rfl, rfl⟩))
              exact ⟨⟨1, rfl, by omega, HN.out⟩, by simp [intOf]; omega⟩
            · have hk1 : ((k : Int) == 0) = false := by simp; omega
              clear hq hx
              go_wp2_with (first | (go_at_call 23; refine (ref09_Further x _).mono ?_; rw [HU.out]; rintro e w' ⟨rfl, rfl⟩))
              exact ⟨⟨k + 1, by go_num, by omega, HN.out⟩, by simp [intOf]; omega⟩
        · have HP := Lib.hid (HI.out.2 fun i hi => HY.out i hi (by omega))
          go_wp2
          go_ret
          exact ⟨ret_bool HP.out.symm, hb12⟩
def blankN (l : List Int) : Bool := l.all spB
theorem blank_step {l : List Int} {k : Nat} (h : k < l.length) : (l.drop k).all spB = (spB l[k] && (l.drop (k + 1)).all spB) := by rw [List.drop_eq_getElem_cons h]; rfl
set_option maxHeartbeats 1000000 in
theorem ref09_Blank (s : ByteArray) (w : World) (hs : s.size ≤ 137438953472) :
    Calls Tryd.prog 29 #[.string s] w fun e w' => e = .returned (.bool (blankN (nums s))) ∧ w = w' := by
  go_enter Tryd.func29, Tryd.ntmps29
  go_wp2_with fail
  go_loop [3] (fun i => ∃ k : Nat, i = .int .i64 k ∧ k ≤ s.size ∧ ((nums s).drop k).all spB = blankN (nums s)) (fun i => s.size - (intOf i).toNat)
  case atStart => exact ⟨0, rfl, by omega, rfl⟩
  case round =>
    obtain ⟨k, rfl, hk, hq⟩ := hrel
    by_cases hlt : k < s.size
    · obtain ⟨c, hc⟩ : ∃ c : Int, (s[k].toNat : Int) = c := ⟨_, rfl⟩
      have hidx := index_str s k hlt c k hc rfl
      rw [blank_step (by rw [nums_length]; exact hlt), nums_at s k hlt, hc] at hq
      have hc0 : 0 ≤ c ∧ c < 256 := by have := s[k].toNat_lt; omega
      clear hc
      cases hsp : spB c with
      | false =>
        have HS := Lib.hid hsp
        have HB := Lib.hid (show blankN (nums s) = false by rw [← hq, hsp]; rfl)
        clear hq hsp
        go_wp2_with (go_at_call 19; refine (ref09_Space c _).mono ?_; rw [HS.out]; rintro e w' ⟨rfl, rfl⟩)
        go_ret
        exact ⟨ret_bool HB.out.symm, rfl⟩
      | true =>
        have HS := Lib.hid hsp
        have HB := Lib.hid (show ((nums s).drop (k + 1)).all spB = blankN (nums s) by rw [← hq, hsp]; rfl)
        clear hq hsp
        go_wp2_with (go_at_call 19; refine (ref09_Space c _).mono ?_; rw [HS.out]; rintro e w' ⟨rfl, rfl⟩)
        exact ⟨⟨k + 1, by go_num, by omega, HB.out⟩, by simp [intOf]; omega⟩
    · have HB := Lib.hid (show blankN (nums s) = true by rw [← hq, nums_drop_end s k (by omega)]; rfl)
      clear hq
      go_wp2
      go_ret
      exact ⟨ret_bool HB.out.symm, rfl⟩
set_option maxRecDepth 100000 in
set_option maxHeartbeats 1000000 in
theorem chars_Blank (s : ByteArray) (w : World) (hs : s.size ≤ 137438953472) :
    Calls Tryd.prog 28 #[.string s] w fun e w' => e = .returned (.bool (blankN (nums s))) ∧ Below w.heap.size w w' := by
  have hcv := Lib.run_convert_string_bytes (P := Tryd.prog) w 9 24 5 s Tryd.underlying9 Tryd.underlying24 Tryd.underlying5
  obtain ⟨cap, hcap⟩ : ∃ cap, grownCap w s.size 0 5 = cap := ⟨_, rfl⟩
  have hrow := LowRow.made w 5 s
  have hbl := bytes_below w 5 s
  obtain ⟨w1, hw1⟩ : ∃ w1, Lib.bytesWorld w 5 s = w1 := ⟨_, rfl⟩
  rw [hcap, hw1] at hcv
  rw [hw1] at hrow hbl
  clear hw1 hcap
  obtain ⟨p, hp⟩ : ∃ p, w.heap.size = p := ⟨_, rfl⟩
  have HP := Lib.hid hp
  rw [hp] at hcv hrow hbl
  clear hp
  go_enter Tryd.func28, Tryd.ntmps28
  go_wp2
  go_loop [8] (fun i => ∃ k : Nat, i = .int .i64 k ∧ k ≤ s.size ∧ ((nums s).drop k).all spB = blankN (nums s)) (fun i => s.size - (intOf i).toNat)
  case atStart => exact ⟨0, rfl, by omega, rfl⟩
  case round =>
    obtain ⟨k, rfl, hk, hq⟩ := hrel
    by_cases hlt : k < s.size
    · have hca := hrow.cellAt k (by rw [nums_length]; exact hlt)
      obtain ⟨c, hc⟩ : ∃ c : Int, (s[k].toNat : Int) = c := ⟨_, rfl⟩
      rw [nums_at s k hlt, hc] at hca
      rw [blank_step (by rw [nums_length]; exact hlt), nums_at s k hlt, hc] at hq
      have hc0 : 0 ≤ c ∧ c < 256 := by have := s[k].toNat_lt; omega
      clear hc
      cases hsp : spB c with
      | false =>
        have HS := Lib.hid hsp
        have HB := Lib.hid (show blankN (nums s) = false by rw [← hq, hsp]; rfl)
        clear hq hsp
        go_wp2_with (go_at_call 18; refine (chars_Space c _).mono ?_; rw [HS.out]; rintro e w' ⟨rfl, rfl⟩)
        go_ret
        exact ⟨ret_bool HB.out.symm, by rw [HP.out]; exact hbl⟩
      | true =>
        have HS := Lib.hid hsp
        have HB := Lib.hid (show ((nums s).drop (k + 1)).all spB = blankN (nums s) by rw [← hq, hsp]; rfl)
        clear hq hsp
        go_wp2_with (go_at_call 18; refine (chars_Space c _).mono ?_; rw [HS.out]; rintro e w' ⟨rfl, rfl⟩)
        exact ⟨⟨k + 1, by go_num, by omega, HB.out⟩, by simp [intOf]; omega⟩
    · have HB := Lib.hid (show blankN (nums s) = true by rw [← hq, nums_drop_end s k (by omega)]; rfl)
      clear hq
      go_wp2
      go_ret
      exact ⟨ret_bool HB.out.symm, by rw [HP.out]; exact hbl⟩
end Go.Proofs.YtkdkoondchbekaaDoor
