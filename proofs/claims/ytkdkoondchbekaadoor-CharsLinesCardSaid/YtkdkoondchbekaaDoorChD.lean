/-
  The walks of the reference's Split, Bad, Take, Lines; chars' Blank.
-/
import Derived.Test.YtkdkoondchbekaaDoorChC
import Derived.IntWalk
namespace Go.Proofs.YtkdkoondchbekaaDoor
open Go.RowKit
theorem nums_ext (s : ByteArray) (a b : Nat) : nums (s.extract a b) = ((nums s).drop a).take (b - a) := nums_extract s a b
theorem nums_front (s : ByteArray) (k : Nat) : nums (s.extract 0 k) = (nums s).take k := by rw [nums_ext]; simp
theorem nums_back (s : ByteArray) (k : Nat) : nums (s.extract k s.size) = (nums s).drop k := by
  rw [nums_ext, List.take_of_length_le (by rw [List.length_drop, nums_length]; omega)]
theorem ext_front (s : ByteArray) (k : Nat) : s.extract 0 k = strOfNums ((nums s).take k) := by rw [← nums_front, strOfNums_nums]
theorem ext_back (s : ByteArray) (k : Nat) : s.extract k s.size = strOfNums ((nums s).drop k) := by rw [← nums_back, strOfNums_nums]
theorem ext_size (s : ByteArray) (a b : Nat) : (s.extract a b).size ≤ s.size := by rw [ByteArray.size_extract]; omega
/-- what Split comes to. -/
def spOut (l : List Int) : Value := .tuple #[.string (strOfNums (splitN l).1), .string (strOfNums (splitN l).2.1), .bool (splitN l).2.2]
theorem spOut_of {l : List Int} {a b : List Int} {o : Bool} (h : splitN l = (a, b, o)) {x y : ByteArray} (hx : x = strOfNums a) (hy : y = strOfNums b) : Ending.returned (.tuple #[.string x, .string y, .bool o]) = .returned (spOut l) := by
  unfold spOut
  rw [h, hx, hy]
theorem take_snoc' (l : List Int) (k : Nat) (h : k < l.length) : l.take (k + 1) = l.take k ++ [l[k]] := by rw [List.take_succ_eq_append_getElem h]
set_option maxHeartbeats 2000000 in
theorem ref09_Split (s : ByteArray) (w : World) (hs : s.size ≤ 137438953472) :
    Calls Tryd.prog 25 #[.string s] w fun e w' => e = .returned (spOut (nums s)) ∧ Below w.heap.size w w' := by
  have hb := nums_isBs s
  cases hp : plainN (nums s) with
  | true =>
    have HP := Lib.hid hp
    have HS := Lib.hid (split_plain _ hb hp)
    clear hp hb
    go_enter Tryd.func25, Tryd.ntmps25
    go_wp2_with fail
    refine (ref09_Plain s _ hs).mono ?_
    rw [HP.out]
    rintro e w1 ⟨rfl, hb1⟩
    go_wp2
    go_ret3
    exact ⟨spOut_of HS.out rfl (strOfNums_nums s).symm, hb1⟩
  | false =>
    have HP := Lib.hid hp
    have hsp := split_ref (nums s) hb
    rw [hp, if_neg (by decide)] at hsp
    clear hp hb
    go_enter Tryd.func25, Tryd.ntmps25
    go_wp2_with fail
    refine (ref09_Plain s _ hs).mono ?_
    rw [HP.out]
    rintro e w1 ⟨rfl, hb1⟩
    have HSP := Lib.hid hsp
    clear hsp
    go_wp2_with fail
    go_loopw [5] (fun i wr => ∃ k : Nat, i = .int .i64 k ∧ k ≤ s.size ∧ splitR ((nums s).take k) ((nums s).drop k) = splitN (nums s) ∧ Below w.heap.size w wr) (fun i _ => s.size - (intOf i).toNat)
    case atStart => exact ⟨0, rfl, by omega, HSP.out, hb1⟩
    case round =>
      obtain ⟨k, rfl, hk, hq, hbl⟩ := hrel
      by_cases hlt : k < s.size
      · obtain ⟨c, hc⟩ : ∃ c : Int, (s[k].toNat : Int) = c := ⟨_, rfl⟩
        have hidx := index_str s k hlt c k hc rfl
        have htk := take_snoc' (nums s) k (by rw [nums_length]; exact hlt)
        rw [nums_at s k hlt, hc] at htk
        rw [nums_drop s k hlt, hc, splitR] at hq
        have HF := Lib.hid (fun w => ref09_Plain (s.extract 0 k) w (Nat.le_trans (ext_size _ _ _) hs))
        have HB := Lib.hid (fun w => ref09_Plain (s.extract (k + 1) s.size) w (Nat.le_trans (ext_size _ _ _) hs))
        have e1 := ext_front s k
        have e2 := ext_back s (k + 1)
        have E1 := Lib.hid e1
        have E2 := Lib.hid e2
        clear hc e1 e2
        have hk0 : (k : Int) ≤ (s.size : Int) := by omega
        have hk1 : (k : Int) + 1 ≤ (s.size : Int) := by omega
        by_cases h58 : c = 58
        · have hcb : (c == 58) = true := by simpa using h58
          have hn1 : plainN (nums (s.extract 0 k)) = plainN ((nums s).take k) := by rw [nums_front]
          have hn2 : plainN (nums (s.extract (k + 1) s.size)) = plainN ((nums s).drop (k + 1)) := by rw [nums_back]
          have N1 := Lib.hid hn1
          have N2 := Lib.hid hn2
          clear hn1 hn2
          rw [decide_eq_true h58, Bool.true_and] at hq
          cases hp1 : plainN ((nums s).take k) with
          | false =>
            have P1 := Lib.hid hp1
            rw [hp1, if_neg (by simp), ← htk] at hq
            have HQ := Lib.hid hq
            clear hq htk hp1
            go_wp2_with fail
            refine (HF.out _).mono ?_
            rw [N1.out, P1.out]
            rintro e w2 ⟨rfl, hb2⟩
            go_wp2_with fail
            exact ⟨⟨k + 1, by go_num, by omega, HQ.out, hbl.trans (hb2.mono hbl.size)⟩, by simp [intOf]; omega⟩
          | true =>
            have P1 := Lib.hid hp1
            cases hp2 : plainN ((nums s).drop (k + 1)) with
            | false =>
              have P2 := Lib.hid hp2
              rw [hp1, hp2, if_neg (by decide), ← htk] at hq
              have HQ := Lib.hid hq
              clear hq htk hp1 hp2
              go_wp2_with fail
              refine (HF.out _).mono ?_
              rw [N1.out, P1.out]
              rintro e w2 ⟨rfl, hb2⟩
              go_wp2_with fail
              refine (HB.out _).mono ?_
              rw [N2.out, P2.out]
              rintro e w3 ⟨rfl, hb3⟩
              have hb23 := hb2.trans (hb3.mono hb2.size)
              go_wp2_with fail
              exact ⟨⟨k + 1, by go_num, by omega, HQ.out, hbl.trans (hb23.mono hbl.size)⟩, by simp [intOf]; omega⟩
            | true =>
              have P2 := Lib.hid hp2
              rw [hp1, hp2, if_pos (show (true && true) = true from rfl)] at hq
              have HQ := Lib.hid hq
              clear hq htk hp1 hp2
              go_wp2_with fail
              refine (HF.out _).mono ?_
              rw [N1.out, P1.out]
              rintro e w2 ⟨rfl, hb2⟩
              go_wp2_with fail
              refine (HB.out _).mono ?_
              rw [N2.out, P2.out]
              rintro e w3 ⟨rfl, hb3⟩
              have hb23 := hb2.trans (hb3.mono hb2.size)
              have hw1 : IntKind.i64.wrap ((k : Int) + 1) = (k : Int) + 1 := IntWalk.i64_in _ (by omega)
              have ht1 : ((k : Int) + 1).toNat = k + 1 := by omega
              have hk2 : (0 : Int) ≤ (k : Int) + 1 := by omega
              go_wp2_with fail
              go_quiet (fail)
              go_wp2
              go_ret3
              exact ⟨spOut_of HQ.out.symm E1.out E2.out, below_dn (hbl.trans (hb23.mono hbl.size)) _⟩
        · have hcb : (c == 58) = false := by simpa using h58
          rw [decide_eq_false h58, Bool.false_and, if_neg (by simp), ← htk] at hq
          have HQ := Lib.hid hq
          clear hq htk h58
          go_wp2_with fail
          exact ⟨⟨k + 1, by go_num, by omega, HQ.out, hbl⟩, by simp [intOf]; omega⟩
      · rw [nums_drop_end s k (by omega), splitR] at hq
        have HQ := Lib.hid hq
        clear hq
        go_wp2
        go_ret3
        exact ⟨spOut_of HQ.out.symm rfl rfl, hbl⟩
theorem bad_end {s : ByteArray} (h : s.size = badK (nums s)) : badN (nums s) = -1 := by unfold badN; rw [if_pos (by rw [nums_length]; omega)]
theorem bad_here {s : ByteArray} {k : Nat} (h : k = badK (nums s)) (hk : k < s.size) : badN (nums s) = k := by unfold badN; rw [if_neg (by rw [nums_length]; omega), h]
set_option maxHeartbeats 1000000 in
theorem ref09_Bad (s : ByteArray) (w : World) (hs : s.size ≤ 137438953472) :
    Calls Tryd.prog 27 #[.string s] w fun e w' => e = .returned (.int .i64 (badN (nums s))) ∧ w = w' := by
  go_enter Tryd.func27, Tryd.ntmps27
  go_wp2_with fail
  go_loop [3] (fun i => ∃ k : Nat, i = .int .i64 k ∧ k ≤ s.size ∧ stopP (fun _ r => chB r) k (pieces ((nums s).drop k)) = badK (nums s)) (fun i => s.size - (intOf i).toNat)
  case atStart => exact ⟨0, rfl, by omega, rfl⟩
  case round =>
    obtain ⟨k, rfl, hk, hq⟩ := hrel
    by_cases hlt : k < s.size
    · have hpd := pieces_drop hlt
      have hpl := piece_drop_le hlt
      obtain ⟨p, hp⟩ : ∃ p, piece ((nums s).drop k) = p := ⟨_, rfl⟩
      rw [hp] at hpd hpl
      rw [hpd, stopP] at hq
      by_cases hneg : p.1 < 0
      · rw [if_neg (by show ¬ chB p.1 = true; rw [neg_ch hneg]; decide)] at hq
        have HB := Lib.hid (bad_here hq hlt)
        have HN := Lib.hid (fun w => ref02_Next_no s k w (by omega) hlt (by rw [hp]; exact hneg))
        clear hq hpd hp
        go_wp2_with (go_at_call 42; refine (HN.out _).mono ?_; rintro e w' ⟨rfl, rfl⟩)
        go_ret
        exact ⟨ret_int HB.out.symm, rfl⟩
      · have HN := Lib.hid (fun w => ref02_Next_ok s k w (by omega) hlt p hp (by omega))
        cases hch : chB p.1 with
        | false =>
          rw [if_neg (by show ¬ chB p.1 = true; rw [hch]; decide)] at hq
          have HB := Lib.hid (bad_here hq hlt)
          have HC := Lib.hid hch
          clear hq hpd hp hch
          go_wp2_with (first | (go_at_call 42; refine (HN.out _).mono ?_; rintro e w' ⟨rfl, rfl⟩) | (go_at_call 17; refine (ref09_Char p.1 _).mono ?_; rw [HC.out]; rintro e w' ⟨rfl, rfl⟩))
          go_ret
          exact ⟨ret_int HB.out.symm, rfl⟩
        | true =>
          rw [if_pos (by show chB p.1 = true; exact hch)] at hq
          have HB := Lib.hid hq
          have HC := Lib.hid hch
          clear hq hpd hp hch
          go_wp2_with (first | (go_at_call 42; refine (HN.out _).mono ?_; rintro e w' ⟨rfl, rfl⟩) | (go_at_call 17; refine (ref09_Char p.1 _).mono ?_; rw [HC.out]; rintro e w' ⟨rfl, rfl⟩))
          exact ⟨⟨k + p.2, by go_num, by omega, HB.out⟩, by simp [intOf]; omega⟩
    · rw [pieces_drop_end (s := s) (k := k) (by omega), stopP] at hq
      obtain rfl : k = s.size := by omega
      have HB := Lib.hid (bad_end hq)
      clear hq
      go_wp2
      go_ret
      exact ⟨ret_int HB.out.symm, rfl⟩
theorem tk_zero (r : Int) : frQ tkB 0 r = fiB r := by
  unfold frQ
  rw [decide_eq_false (by omega), Bool.false_or]
  cases h : fiB r with
  | false => rfl
  | true => unfold tkB; rw [fi_fu h, Bool.or_true]; rfl
theorem tk_pos {k : Nat} (h : k ≠ 0) (r : Int) : frQ tkB k r = tkB r := by unfold frQ; rw [decide_eq_true h]; rfl
set_option maxRecDepth 100000 in
set_option maxHeartbeats 2000000 in
theorem ref09_Take (s : ByteArray) (w : World) (hs : s.size ≤ 137438953472) :
    Calls Tryd.prog 30 #[.string s] w fun e w' => e = .returned (.int .i64 (takeN (nums s))) ∧ w = w' := by
  go_enter Tryd.func30, Tryd.ntmps30
  go_wp2_with fail
  go_loop [3] (fun i => ∃ k : Nat, i = .int .i64 k ∧ k ≤ s.size ∧ stopP (frQ tkB) k (pieces ((nums s).drop k)) = takeN (nums s)) (fun i => s.size - (intOf i).toNat)
  case atStart => exact ⟨0, rfl, by omega, rfl⟩
  case round =>
    obtain ⟨k, rfl, hk, hq⟩ := hrel
    by_cases hlt : k < s.size
    · have hpd := pieces_drop hlt
      have hpl := piece_drop_le hlt
      obtain ⟨p, hp⟩ : ∃ p, piece ((nums s).drop k) = p := ⟨_, rfl⟩
      rw [hp] at hpd hpl
      rw [hpd, stopP] at hq
      by_cases hneg : p.1 < 0
      · have hnf : frQ tkB k p.1 = false := by
          unfold frQ tkB
          rw [neg_fu hneg, decide_eq_false (show ¬ p.1 = 58 by omega)]
          simp
        rw [if_neg (by rw [hnf]; decide)] at hq
        have HB := Lib.hid hq
        have HN := Lib.hid (fun w => ref02_Next_no s k w (by omega) hlt (by rw [hp]; exact hneg))
        clear hq hpd hp
        go_wp2_with (go_at_call 42; refine (HN.out _).mono ?_; rintro e w' ⟨rfl, rfl⟩)
        go_ret
        exact ⟨ret_int (by rw [HB.out]), rfl⟩
      · have HN := Lib.hid (fun w => ref02_Next_ok s k w (by omega) hlt p hp (by omega))
        by_cases hk0 : k = 0
        · subst hk0
          rw [tk_zero] at hq
          cases hch : fiB p.1 with
          | false =>
            rw [hch, if_neg (by decide)] at hq
            have HB := Lib.hid hq
            have HC := Lib.hid hch
            clear hq hpd hp hch
            go_wp2_with (first | (go_at_call 42; refine (HN.out _).mono ?_; rintro e w' ⟨rfl, rfl⟩) | (go_at_call 21; refine (ref09_First p.1 _).mono ?_; rw [HC.out]; rintro e w' ⟨rfl, rfl⟩))
            go_ret
            exact ⟨ret_int (by rw [← HB.out]; rfl), rfl⟩
          | true =>
            rw [hch, if_pos rfl] at hq
            have HB := Lib.hid hq
            have HC := Lib.hid hch
            clear hq hpd hp hch
            go_wp2_with (first | (go_at_call 42; refine (HN.out _).mono ?_; rintro e w' ⟨rfl, rfl⟩) | (go_at_call 21; refine (ref09_First p.1 _).mono ?_; rw [HC.out]; rintro e w' ⟨rfl, rfl⟩))
            exact ⟨⟨0 + p.2, by go_num, by omega, HB.out⟩, by simp [intOf]; omega⟩
        · rw [tk_pos hk0] at hq
          have q0 : ((k : Int) == 0) = false := by simp; omega
          have q1 : decide ((0 : Int) < (k : Int)) = true := decide_eq_true (by omega)
          cases hfu : fuB p.1 with
          | true =>
            rw [show tkB p.1 = true by unfold tkB; rw [hfu, Bool.or_true], if_pos rfl] at hq
            have HB := Lib.hid hq
            have HC := Lib.hid hfu
            clear hq hpd hp hfu
            go_wp2_with (first | (go_at_call 42; refine (HN.out _).mono ?_; rintro e w' ⟨rfl, rfl⟩) | (go_at_call 23; refine (ref09_Further p.1 _).mono ?_; rw [HC.out]; rintro e w' ⟨rfl, rfl⟩))
            exact ⟨⟨k + p.2, by go_num, by omega, HB.out⟩, by simp [intOf]; omega⟩
          | false =>
            have HC := Lib.hid hfu
            by_cases h58 : p.1 = 58
            · have q2 : (p.1 != 58) = false := by simp [h58]
              rw [show tkB p.1 = true by unfold tkB; rw [decide_eq_true h58]; rfl, if_pos rfl] at hq
              have HB := Lib.hid hq
              clear hq hpd hp hfu h58
              go_wp2_with (first | (go_at_call 42; refine (HN.out _).mono ?_; rintro e w' ⟨rfl, rfl⟩) | (go_at_call 23; refine (ref09_Further p.1 _).mono ?_; rw [HC.out]; rintro e w' ⟨rfl, rfl⟩))
              exact ⟨⟨k + p.2, by go_num, by omega, HB.out⟩, by simp [intOf]; omega⟩
            · have q2 : (p.1 != 58) = true := by simpa using h58
              rw [show tkB p.1 = false by unfold tkB; rw [hfu, decide_eq_false h58]; rfl, if_neg (by decide)] at hq
              have HB := Lib.hid hq
              clear hq hpd hp hfu h58
              go_wp2_with (first | (go_at_call 42; refine (HN.out _).mono ?_; rintro e w' ⟨rfl, rfl⟩) | (go_at_call 23; refine (ref09_Further p.1 _).mono ?_; rw [HC.out]; rintro e w' ⟨rfl, rfl⟩))
              go_ret
              exact ⟨ret_int (by rw [HB.out]), rfl⟩
    · rw [pieces_drop_end (s := s) (k := k) (by omega), stopP] at hq
      obtain rfl : k = s.size := by omega
      have HB := Lib.hid hq
      clear hq
      go_wp2
      go_ret
      exact ⟨ret_int (by rw [HB.out]), rfl⟩
def LnAt (w : World) (s : ByteArray) (v i : Value) (wr : World) : Prop :=
  ∃ (k : Nat) (xs : List Int), i = .int .i64 k ∧ k ≤ s.size ∧ xs.length ≤ k ∧ xs ++ linesN ((nums s).drop k) = linesN (nums s) ∧ wr.ownsRow w.heap.size 5 1 v xs.length (xs.map (Value.int .u8)) ∧ Below w.heap.size w wr
theorem lines_skip {s : ByteArray} {k : Nat} (h : k + 1 < s.size) (hc : (s[k].toNat : Int) = 13) (hd : (s[k + 1].toNat : Int) = 10) : linesN ((nums s).drop k) = linesN ((nums s).drop (k + 1)) := by
  rw [nums_drop s k (by omega), linesN, if_pos hc, if_pos (by rw [nums_drop s (k + 1) h, hd]; rfl)]
theorem lines_cr {s : ByteArray} {k : Nat} (h : k < s.size) (hc : (s[k].toNat : Int) = 13) (hd : ∀ (h : k + 1 < s.size), (s[k + 1].toNat : Int) ≠ 10) : linesN ((nums s).drop k) = 10 :: linesN ((nums s).drop (k + 1)) := by
  rw [nums_drop s k h, linesN, if_pos hc, if_neg]
  intro e
  by_cases h1 : k + 1 < s.size
  · rw [nums_drop s (k + 1) h1] at e
    injection e with e
    exact hd h1 e
  · rw [nums_drop_end s (k + 1) (by omega)] at e
    cases e
theorem lines_ch {s : ByteArray} {k : Nat} (h : k < s.size) (hc : (s[k].toNat : Int) ≠ 13) : linesN ((nums s).drop k) = (s[k].toNat : Int) :: linesN ((nums s).drop (k + 1)) := by
  rw [nums_drop s k h, linesN, if_neg hc]
set_option maxRecDepth 100000 in
set_option maxHeartbeats 2000000 in
theorem ref09_Lines (s : ByteArray) (w : World) (hs : s.size ≤ 137438953472) :
    Calls Tryd.prog 31 #[.string s] w fun e w' => e = .returned (.string (strOfNums (linesN (nums s)))) ∧ Below w.heap.size w w' := by
  go_enter Tryd.func31, Tryd.ntmps31
  go_wp2_with fail
  go_loopw [3, 4] (fun v i wr => LnAt w s v i wr) (fun _ i _ => s.size - (intOf i).toNat)
  case atStart => exact ⟨0, [], rfl, by omega, by simp, by simp, World.ownsRow_nil _ _ _ _, Below.refl _ _⟩
  case round =>
    obtain ⟨k, xs, rfl, hk, hxl, hq, hown, hb⟩ := hrel
    by_cases hlt : k < s.size
    · obtain ⟨c, hc⟩ : ∃ c : Int, (s[k].toNat : Int) = c := ⟨_, rfl⟩
      have hidx := index_str s k hlt c k hc rfl
      have happ := fun (x : Int) => app_u8 wr w.heap.size u3 xs.length xs hown x (by omega) hb.size
      have hfin : ∀ (x : Int) (w1 : World) (v' i : Value), i = .int .i64 (k + 1 : Nat) → linesN ((nums s).drop k) = x :: linesN ((nums s).drop (k + 1)) → w1.ownsRow w.heap.size 5 1 v' (xs.length + 1) ((xs ++ [x]).map (Value.int .u8)) → Below w.heap.size wr w1 → LnAt w s v' i w1 := by
        intro x w1 v' i hi hl ho hb1
        refine ⟨k + 1, xs ++ [x], hi, hlt, by simp; omega, by rw [← hq, hl]; simp, ?_, hb.trans hb1⟩
        rw [List.length_append]
        exact ho
      have HF := Lib.hid hfin
      clear hfin
      by_cases h13 : c = 13
      · have hcb : (c == 13) = true := by simpa using h13
        by_cases hd : ∃ h : k + 1 < s.size, (s[k + 1].toNat : Int) = 10
        · obtain ⟨h1, h2⟩ := hd
          have HL : Hid (LnAt w s u3 (.int .i64 (k + 1 : Nat)) wr) := Lib.hid ⟨k + 1, xs, rfl, hlt, by omega, by rw [← hq, lines_skip h1 (by rw [hc, h13]) h2], hown, hb⟩
          have hidx2 := index_str s (k + 1) h1 10 (k + 1) h2 (by simp)
          have hlt2 : (k : Int) + 1 < (s.size : Int) := by omega
          clear hc hq hown happ h2
          go_wp2
          exact ⟨by rw [show ((k : Int) + 1) = ((k + 1 : Nat) : Int) by omega]; exact HL.out, by simp [intOf]; omega⟩
        · have HL := Lib.hid (lines_cr hlt (by rw [hc, h13]) (fun h e => hd ⟨h, e⟩))
          obtain ⟨v', w1, hr, ho1, hb1, _⟩ := happ 10
          have HR := Lib.hid hr
          have HO := Lib.hid ho1
          by_cases h1 : k + 1 < s.size
          · obtain ⟨d, hdd⟩ : ∃ d : Int, (s[k + 1].toNat : Int) = d := ⟨_, rfl⟩
            have hd10 : (d == 10) = false := by
              have : ¬ d = 10 := fun e => hd ⟨h1, by rw [hdd, e]⟩
              simpa using this
            have hidx2 := index_str s (k + 1) h1 d (k + 1) hdd (by simp)
            have hlt2 : (k : Int) + 1 < (s.size : Int) := by omega
            clear hc hq hown happ hdd hd hr ho1
            go_wp2_with (at_builtin; refine wpList_append_run rfl _ _ _ _ rfl _ _ rfl rfl _ _ HR.out ?_)
            exact ⟨HF.out 10 _ _ _ (by go_num) HL.out HO.out hb1, by simp [intOf]; omega⟩
          · have hlt2 : ¬ (k : Int) + 1 < (s.size : Int) := by omega
            clear hc hq hown happ hd hr ho1
            go_wp2_with (at_builtin; refine wpList_append_run rfl _ _ _ _ rfl _ _ rfl rfl _ _ HR.out ?_)
            exact ⟨HF.out 10 _ _ _ (by go_num) HL.out HO.out hb1, by simp [intOf]; omega⟩
      · have hcb : (c == 13) = false := by simpa using h13
        have HL := Lib.hid (lines_ch hlt (by rw [hc]; exact h13))
        rw [hc] at HL
        obtain ⟨v', w1, hr, ho1, hb1, _⟩ := happ c
        have HR := Lib.hid hr
        have HO := Lib.hid ho1
        clear hc hq hown happ hr ho1 h13
        go_wp2_with (at_builtin; refine wpList_append_run rfl _ _ _ _ rfl _ _ rfl rfl _ _ HR.out ?_)
        exact ⟨HF.out c _ _ _ (by go_num) HL.out HO.out hb1, by simp [intOf]; omega⟩
    · rw [nums_drop_end s k (by omega), linesN, List.append_nil] at hq
      have hconv := conv_own wr w.heap.size u3 _ _ hown
      have HQ := Lib.hid hq
      clear hq hown
      go_wp2
      go_ret
      exact ⟨ret_str (by rw [HQ.out]), hb⟩
end Go.Proofs.YtkdkoondchbekaaDoor
