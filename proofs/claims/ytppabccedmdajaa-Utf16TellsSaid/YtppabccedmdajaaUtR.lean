/-
  Two rows of ints in one loop; the walk of the reference's Decode.
-/
import Derived.Test.YtppabccedmdajaaUtA
import Derived.Test.YtppabccedmdajaaUtN
import Derived.Deep.AppendLies
namespace Go.Proofs.Ytppabccedmdajaa
open Go.RowKit
/-- an append of one int, and where what comes out lies. -/
theorem app_int_l (wr : World) (base : Nat) (v : Value) (n : Nat) (xs : List Int) (hown : wr.ownsRow base 3 1 v n (xs.map (Value.int .i64))) (x : Int) (hn : n < 1099511627776) (hbase : base ≤ wr.heap.size) :
    ∃ v' w' g, (Builtin.append_ #[24, 24] 24 #[v, .slice (some ⟨wr.heap.size, 0, none⟩) 1 1]).run Try.prog (wr.alloc (.cells #[.int .i64 x] 3)) = .ok v' w' ∧
      w'.ownsRow base 3 1 v' (n + 1) ((xs ++ [x]).map (Value.int .i64)) ∧ (wr.alloc (.cells #[.int .i64 x] 3)).grownBy w' v.ownBlock ∧ v'.ownBlock = some g ∧ (v.ownBlock = some g ∨ wr.heap.size < g) := by
  obtain ⟨i0, hi, hz0, hz1, hz2⟩ := info_parts infoInt
  obtain ⟨g, cap, w', h1, h2, h3, h4, h5⟩ := run_append_lies (P := Try.prog) (w := wr.alloc (.cells #[.int .i64 x] 3)) 24 24 base 3 i0 (.int .i64 0) 1 8 Try.underlying24 hi hz0 hz1 hz2 rfl (by decide) v n _ (hown.alloc _) ⟨wr.heap.size, 0, none⟩ 1 1 [.int .i64 x] rfl
    (fun j u hj => by match j, hj with | 0, hj => simp at hj; subst hj; simp [Addr.add, World.cell?_alloc_mark]) (fun u hu => by simp at hu; subst hu; rfl) (by decide) (by unfold maxLen; omega) (by omega) (by simp; omega) _ rfl
  exact ⟨_, w', g, h1, by simpa using h2, h3, rfl, by rcases h4 with h | h; exact .inl h; exact .inr (by rw [h]; simp)⟩
structure RO (w wr : World) (out bad : List Int) (vo vb : Value) : Prop where
  o : wr.ownsRow w.heap.size 3 1 vo out.length (out.map (Value.int .i64))
  b : wr.ownsRow w.heap.size 3 1 vb bad.length (bad.map (Value.int .i64))
  ap : ∀ g, vo.ownBlock = some g → vb.ownBlock ≠ some g
  bl : Below w.heap.size w wr
theorem RO.dn {w wr : World} {out bad : List Int} {vo vb : Value} (q : RO w wr out bad vo vb) (n : Nat) : RO w (wr.drewN n) out bad vo vb := ⟨q.o, q.b, q.ap, below_dn q.bl n⟩
theorem RO.swap {w wr : World} {out bad : List Int} {vo vb : Value} (q : RO w wr out bad vo vb) : RO w wr bad out vb vo := ⟨q.b, q.o, fun g h h' => q.ap g h' h, q.bl⟩
theorem RO.app {w wr : World} {out bad : List Int} {vo vb : Value} (q : RO w wr out bad vo vb) (x : Int) (hn : out.length ≤ 1000000) :
    ∃ vo' w', (Builtin.append_ #[24, 24] 24 #[vo, .slice (some ⟨wr.heap.size, 0, none⟩) 1 1]).run Try.prog (wr.alloc (.cells #[.int .i64 x] 3)) = .ok vo' w' ∧ RO w w' (out ++ [x]) bad vo' vb := by
  obtain ⟨vo', w', g, h1, h2, h3, h4, h5⟩ := app_int_l wr w.heap.size vo out.length out q.o x (by omega) q.bl.size
  have hba := (Below.refl wr.heap.size wr).alloc (Nat.le_refl _) (.cells #[.int .i64 x] 3)
  have hob := q.o.alloc (.cells #[.int .i64 x] 3)
  have hbb := q.b.alloc (.cells #[.int .i64 x] 3)
  refine ⟨vo', w', h1, ⟨by rw [List.length_append]; exact h2, hbb.kept h3 ?_, ?_, (q.bl.trans (hba.mono q.bl.size)).trans (ownBelow hob h3 (Nat.le_refl _) (by simp; exact Nat.le_succ_of_le q.bl.size))⟩⟩
  · cases hv : vb.ownBlock with
    | none => exact .inl rfl
    | some k =>
      refine .inr fun e => ?_
      exact q.ap k e.symm hv
  · intro g' hg' hb'
    rw [h4] at hg'
    injection hg' with hg'
    subst hg'
    rcases h5 with h5 | h5
    · exact q.ap g h5 hb'
    · have := (q.b.lt g hb').2
      omega
set_option maxRecDepth 100000 in
set_option maxHeartbeats 8000000 in
theorem ref03_Decode (big : Bool) (s : ByteArray) (w : World) (hs : s.size ≤ 100000) :
    Calls Try.prog 15 #[.string s, .bool big] w fun e w' => ∃ vb, e = .returned (.tuple #[.string (textS (dW big 0 (nums s)).1), vb]) ∧ Reads w'.heap.size w' vb ((dW big 0 (nums s)).2.map (Value.int .i64)) ∧ Below w.heap.size w w' := by
  obtain ⟨D, hD⟩ : ∃ D, dW big 0 (nums s) = D := ⟨_, rfl⟩
  rw [hD]
  have HD := Lib.hid hD
  clear hD
  go_enter Try.func15, Try.ntmps15
  go_wp2_with fail
  go_loopw [6, 7, 8] (fun vo vb i wr => ∃ (k : Nat) (out bad : List Int), i = .int .i64 k ∧ k ≤ s.size ∧ out.length ≤ k ∧ bad.length ≤ k ∧ out ++ (dW big k ((nums s).drop k)).1 = D.1 ∧ bad ++ (dW big k ((nums s).drop k)).2 = D.2 ∧ RO w wr out bad vo vb) (fun _ _ i _ => s.size - (intOf i).toNat)
  case atStart => exact ⟨0, [], [], rfl, by omega, by simp, by simp, by rw [List.drop_zero, HD.out]; rfl, by rw [List.drop_zero, HD.out]; rfl, ⟨World.ownsRow_nil _ _ _ _, World.ownsRow_nil _ _ _ _, by rintro g ⟨⟩, Below.refl _ _⟩⟩
  case round =>
    obtain ⟨k, out, bad, rfl, hk, hol, hbl, ho, hbd, q⟩ := hrel
    by_cases hk1 : k < s.size
    · have hd5 := decide_eq_true (show (k : Int) < (s.size : Int) by omega)
      by_cases hlt : k + 1 < s.size
      · have hd1 : ((k : Int) + 1 == (s.size : Int)) = false := by simp; omega
        have hdr := nums_drop s k (by omega)
        have hdr1 := nums_drop s (k + 1) hlt
        obtain ⟨x, hx⟩ : ∃ x, s[k].toNat = x := ⟨_, rfl⟩
        obtain ⟨y, hy⟩ : ∃ y, s[k + 1].toNat = y := ⟨_, rfl⟩
        have hx256 : x < 256 := by rw [← hx]; exact s[k].toBitVec.isLt
        have hy256 : y < 256 := by rw [← hy]; exact s[k + 1].toBitVec.isLt
        obtain ⟨u, hu⟩ : ∃ u, unitN big x y = u := ⟨_, rfl⟩
        have hu0 := unit_lo big (x := (x : Int)) (y := (y : Int)) (by omega) (by omega)
        rw [hu] at hu0
        obtain ⟨hu1, hu2⟩ := hu0
        have HU := fun w => ref03_unit big s k k rfl w hlt (by omega) x y hx hy u hu
        rw [hx] at hdr
        rw [hy] at hdr1
        rw [hdr, hdr1] at ho hbd
        clear hdr hdr1 hx hy
        have hd2 : ((x : Int) :: (y : Int) :: (nums s).drop (k + 1 + 1)).drop 2 = (nums s).drop (k + 2) := rfl
        cases hH : isHi u with
        | true =>
          have HH := Lib.hid hH
          by_cases h4 : k + 3 < s.size
          · have hd3 := decide_eq_true (show (k : Int) + 3 < (s.size : Int) by omega)
            have hdr2 := nums_drop s (k + 2) (by omega)
            have hdr3 := nums_drop s (k + 3) h4
            obtain ⟨p, hp⟩ : ∃ p, s[k + 2].toNat = p := ⟨_, rfl⟩
            obtain ⟨r, hr⟩ : ∃ r, s[k + 3].toNat = r := ⟨_, rfl⟩
            have hp256 : p < 256 := by rw [← hp]; exact s[k + 2].toBitVec.isLt
            have hr256 : r < 256 := by rw [← hr]; exact s[k + 3].toBitVec.isLt
            obtain ⟨lv, hlv⟩ : ∃ lv, unitN big p r = lv := ⟨_, rfl⟩
            have hlv0 := unit_lo big (x := (p : Int)) (y := (r : Int)) (by omega) (by omega)
            rw [hlv] at hlv0
            obtain ⟨hlv1, hlv2⟩ := hlv0
            have HU2 := fun w => ref03_unit big s (k + 2) ((k : Int) + 2) (by omega) w h4 (by omega) p r hp hr lv hlv
            rw [hp] at hdr2
            rw [hr] at hdr3
            cases hL : isLo lv with
            | true =>
              have HL := Lib.hid hL
              have ST : step16 big x y ((nums s).drop (k + 1 + 1)) = (pairN u lv, 4, true) := by
                rw [show k + 1 + 1 = k + 2 from rfl, hdr2, hdr3]
                unfold step16
                simp only
                rw [hu, hlv, if_pos hH, if_pos hL]
              have hd4 : ((x : Int) :: (y : Int) :: (nums s).drop (k + 1 + 1)).drop 4 = (nums s).drop (k + 4) := by
                rw [show k + 1 + 1 = k + 2 from rfl, hdr2, hdr3]
                rfl
              rw [dW_step big k x y _ ST] at ho hbd
              simp only [if_true] at ho hbd
              rw [hd4] at ho hbd
              have HO := Lib.hid ho
              have HBD := Lib.hid hbd
              have hpn : pairN u lv = 65536 + (u - 55296) * 1024 + lv - 56320 := by unfold pairN; omega
              rw [hpn] at HO
              clear ho hbd ST hd4 hd2 hdr2 hdr3 hp hr hH hL hu hlv hpn
              go_wp2_with fail
              refine (HU _).mono ?_
              rintro e w2 ⟨rfl, m1, rfl⟩
              go_wp2_with fail
              refine (ref03_high u _).mono ?_
              rw [HH.out]
              rintro e w3 ⟨rfl, rfl⟩
              go_wp2_with fail
              refine (HU2 _).mono ?_
              rintro e w2 ⟨rfl, m2, rfl⟩
              go_wp2_with fail
              refine (ref03_low lv _).mono ?_
              rw [HL.out]
              rintro e w3 ⟨rfl, rfl⟩
              go_wp2_with fail
              refine (HU2 _).mono ?_
              rintro e w2 ⟨rfl, m3, rfl⟩
              obtain ⟨vo', w7, hr1, q7⟩ := (q.dn (m1 + m2 + m3)).app (65536 + (u - 55296) * 1024 + lv - 56320) (by omega)
              have HA := Lib.hid hr1
              obtain ⟨va7, vl7, vc7, rfl⟩ := own_slice q7.o
              clear hr1
              go_wp2_with (at_builtin; refine wpList_append_run rfl _ _ _ _ rfl _ _ rfl rfl _ _ HA.out ?_)
              exact ⟨⟨k + 4, out ++ [65536 + (u - 55296) * 1024 + lv - 56320], bad, by go_num, by omega, by simp; omega, by omega, by rw [List.append_assoc]; exact HO.out, HBD.out, q7⟩, by simp [intOf]; omega⟩
            | false =>
              have HL := Lib.hid hL
              have ST : step16 big x y ((nums s).drop (k + 1 + 1)) = (65533, 2, false) := by
                rw [show k + 1 + 1 = k + 2 from rfl, hdr2, hdr3]
                unfold step16
                simp only
                rw [hu, hlv, if_pos hH, if_neg (by rw [hL]; decide)]
              rw [dW_step big k x y _ ST] at ho hbd
              simp only [if_neg (show ¬ (false = true) by decide)] at ho hbd
              rw [hd2] at ho hbd
              have HO := Lib.hid ho
              have HBD := Lib.hid hbd
              clear ho hbd ST hd2 hdr2 hdr3 hp hr hH hL hu hlv
              go_wp2_with fail
              refine (HU _).mono ?_
              rintro e w2 ⟨rfl, m1, rfl⟩
              go_wp2_with fail
              refine (ref03_high u _).mono ?_
              rw [HH.out]
              rintro e w3 ⟨rfl, rfl⟩
              go_wp2_with fail
              refine (HU2 _).mono ?_
              rintro e w2 ⟨rfl, m2, rfl⟩
              go_wp2_with fail
              refine (ref03_low lv _).mono ?_
              rw [HL.out]
              rintro e w3 ⟨rfl, rfl⟩
              go_wp2_with fail
              refine (ref03_high u _).mono ?_
              rw [HH.out]
              rintro e w3 ⟨rfl, rfl⟩
              obtain ⟨vb', w7, hr1, q7⟩ := (q.dn (m1 + m2)).swap.app (k : Int) (by omega)
              have HA := Lib.hid hr1
              obtain ⟨va7, vl7, vc7, rfl⟩ := own_slice q7.o
              obtain ⟨vo', w8, hr2, q8⟩ := q7.swap.app 65533 (by omega)
              have HA2 := Lib.hid hr2
              obtain ⟨va8, vl8, vc8, rfl⟩ := own_slice q8.o
              clear hr1 hr2
              go_wp2_with (at_builtin; first | (refine wpList_append_run rfl _ _ _ _ rfl _ _ rfl rfl _ _ HA.out ?_) | (refine wpList_append_run rfl _ _ _ _ rfl _ _ rfl rfl _ _ HA2.out ?_))
              exact ⟨⟨k + 2, out ++ [65533], bad ++ [(k : Int)], by go_num, by omega, by simp; omega, by simp; omega, by rw [List.append_assoc]; exact HO.out, by rw [List.append_assoc]; exact HBD.out, q8⟩, by simp [intOf]; omega⟩
          · have hd3 := decide_eq_false (show ¬ (k : Int) + 3 < (s.size : Int) by omega)
            have ST : step16 big x y ((nums s).drop (k + 1 + 1)) = (65533, 2, false) := by
              unfold step16
              rw [hu, if_pos hH]
              cases hdd : (nums s).drop (k + 1 + 1) with
              | nil => rfl
              | cons p r =>
                cases r with
                | nil => rfl
                | cons q' r =>
                  have := congrArg List.length hdd
                  rw [List.length_drop, nums_length] at this
                  simp only [List.length_cons] at this
                  omega
            rw [dW_step big k x y _ ST] at ho hbd
            simp only [if_neg (show ¬ (false = true) by decide)] at ho hbd
            rw [hd2] at ho hbd
            have HO := Lib.hid ho
            have HBD := Lib.hid hbd
            clear ho hbd ST hd2 hH hu
            go_wp2_with fail
            refine (HU _).mono ?_
            rintro e w2 ⟨rfl, m1, rfl⟩
            go_wp2_with fail
            refine (ref03_high u _).mono ?_
            rw [HH.out]
            rintro e w3 ⟨rfl, rfl⟩
            go_wp2_with fail
            refine (ref03_high u _).mono ?_
            rw [HH.out]
            rintro e w3 ⟨rfl, rfl⟩
            obtain ⟨vb', w7, hr1, q7⟩ := (q.dn m1).swap.app (k : Int) (by omega)
            have HA := Lib.hid hr1
            obtain ⟨va7, vl7, vc7, rfl⟩ := own_slice q7.o
            obtain ⟨vo', w8, hr2, q8⟩ := q7.swap.app 65533 (by omega)
            have HA2 := Lib.hid hr2
            obtain ⟨va8, vl8, vc8, rfl⟩ := own_slice q8.o
            clear hr1 hr2
            go_wp2_with (at_builtin; first | (refine wpList_append_run rfl _ _ _ _ rfl _ _ rfl rfl _ _ HA.out ?_) | (refine wpList_append_run rfl _ _ _ _ rfl _ _ rfl rfl _ _ HA2.out ?_))
            exact ⟨⟨k + 2, out ++ [65533], bad ++ [(k : Int)], by go_num, by omega, by simp; omega, by simp; omega, by rw [List.append_assoc]; exact HO.out, by rw [List.append_assoc]; exact HBD.out, q8⟩, by simp [intOf]; omega⟩
        | false =>
          have HH := Lib.hid hH
          cases hL : isLo u with
          | true =>
            have HL := Lib.hid hL
            have ST : step16 big x y ((nums s).drop (k + 1 + 1)) = (65533, 2, false) := by
              unfold step16
              rw [hu, if_neg (by rw [hH]; decide), if_pos hL]
            rw [dW_step big k x y _ ST] at ho hbd
            simp only [if_neg (show ¬ (false = true) by decide)] at ho hbd
            rw [hd2] at ho hbd
            have HO := Lib.hid ho
            have HBD := Lib.hid hbd
            clear ho hbd ST hd2 hH hL hu
            go_wp2_with fail
            refine (HU _).mono ?_
            rintro e w2 ⟨rfl, m1, rfl⟩
            go_wp2_with fail
            refine (ref03_high u _).mono ?_
            rw [HH.out]
            rintro e w3 ⟨rfl, rfl⟩
            go_wp2_with fail
            refine (ref03_high u _).mono ?_
            rw [HH.out]
            rintro e w3 ⟨rfl, rfl⟩
            go_wp2_with fail
            refine (ref03_low u _).mono ?_
            rw [HL.out]
            rintro e w3 ⟨rfl, rfl⟩
            obtain ⟨vb', w7, hr1, q7⟩ := (q.dn m1).swap.app (k : Int) (by omega)
            have HA := Lib.hid hr1
            obtain ⟨va7, vl7, vc7, rfl⟩ := own_slice q7.o
            obtain ⟨vo', w8, hr2, q8⟩ := q7.swap.app 65533 (by omega)
            have HA2 := Lib.hid hr2
            obtain ⟨va8, vl8, vc8, rfl⟩ := own_slice q8.o
            clear hr1 hr2
            go_wp2_with (at_builtin; first | (refine wpList_append_run rfl _ _ _ _ rfl _ _ rfl rfl _ _ HA.out ?_) | (refine wpList_append_run rfl _ _ _ _ rfl _ _ rfl rfl _ _ HA2.out ?_))
            exact ⟨⟨k + 2, out ++ [65533], bad ++ [(k : Int)], by go_num, by omega, by simp; omega, by simp; omega, by rw [List.append_assoc]; exact HO.out, by rw [List.append_assoc]; exact HBD.out, q8⟩, by simp [intOf]; omega⟩
          | false =>
            have HL := Lib.hid hL
            have ST : step16 big x y ((nums s).drop (k + 1 + 1)) = (u, 2, true) := by
              unfold step16
              rw [hu, if_neg (by rw [hH]; decide), if_neg (by rw [hL]; decide)]
            rw [dW_step big k x y _ ST] at ho hbd
            simp only [if_true] at ho hbd
            rw [hd2] at ho hbd
            have HO := Lib.hid ho
            have HBD := Lib.hid hbd
            clear ho hbd ST hd2 hH hL hu
            go_wp2_with fail
            refine (HU _).mono ?_
            rintro e w2 ⟨rfl, m1, rfl⟩
            go_wp2_with fail
            refine (ref03_high u _).mono ?_
            rw [HH.out]
            rintro e w3 ⟨rfl, rfl⟩
            go_wp2_with fail
            refine (ref03_high u _).mono ?_
            rw [HH.out]
            rintro e w3 ⟨rfl, rfl⟩
            go_wp2_with fail
            refine (ref03_low u _).mono ?_
            rw [HL.out]
            rintro e w3 ⟨rfl, rfl⟩
            obtain ⟨vo', w7, hr1, q7⟩ := (q.dn m1).app u (by omega)
            have HA := Lib.hid hr1
            obtain ⟨va7, vl7, vc7, rfl⟩ := own_slice q7.o
            clear hr1
            go_wp2_with (at_builtin; refine wpList_append_run rfl _ _ _ _ rfl _ _ rfl rfl _ _ HA.out ?_)
            exact ⟨⟨k + 2, out ++ [u], bad, by go_num, by omega, by simp; omega, by omega, by rw [List.append_assoc]; exact HO.out, HBD.out, q7⟩, by simp [intOf]; omega⟩
      · have hd1 : ((k : Int) + 1 == (s.size : Int)) = true := by simp; omega
        obtain ⟨x, hx⟩ : ∃ x : Int, (nums s).drop k = [x] := ⟨_, by rw [nums_drop s k hk1, nums_drop_end s (k + 1) (by omega)]⟩
        rw [hx, dW_one] at ho hbd
        obtain ⟨vo', w7, hr1, q7⟩ := q.app 65533 (by omega)
        have HA := Lib.hid hr1
        obtain ⟨va7, vl7, vc7, rfl⟩ := own_slice q7.o
        obtain ⟨vb', w9, hr2, q8⟩ := q7.swap.app (k : Int) (by omega)
        have HA2 := Lib.hid hr2
        obtain ⟨va8, vl8, vc8, rfl⟩ := own_slice q8.o
        have qf := q8.swap
        have HO := Lib.hid (show textS D.1 = textS (out ++ [65533]) by rw [← ho])
        have HBD := Lib.hid hbd
        have ol : (out ++ [(65533 : Int)]).length ≤ 1000000 := by simp; omega
        have bl2 : (bad ++ [(k : Int)]).length ≤ 1000000 := by simp; omega
        clear hr1 hr2 ho hbd hx q7 q8
        go_wp2_with (at_builtin; first | (refine wpList_append_run rfl _ _ _ _ rfl _ _ rfl rfl _ _ HA.out ?_) | (refine wpList_append_run rfl _ _ _ _ rfl _ _ rfl rfl _ _ HA2.out ?_))
        refine (ref02_Text _ _ w9.heap.size _ (Reads.of_own qf.o (by unfold maxLen; omega)) (Nat.le_refl _) (by omega)).mono ?_
        rintro e w11 ⟨rfl, hb11⟩
        go_wp2_with fail
        go_ret2
        refine ⟨_, by rw [HO.out]; rfl, ?_, qf.bl.trans (hb11.mono qf.bl.size)⟩
        rw [← HBD.out]
        exact ((Reads.of_own qf.b (by unfold maxLen; omega)).below hb11 (Nat.le_refl _)).mono hb11.size
    · have hd5 := decide_eq_false (show ¬ (k : Int) < (s.size : Int) by omega)
      rw [nums_drop_end s k (by omega), dW_nil] at ho hbd
      simp only [List.append_nil] at ho hbd
      have qf := q
      obtain ⟨va7, vl7, vc7, rfl⟩ := own_slice qf.o
      obtain ⟨va8, vl8, vc8, rfl⟩ := own_slice qf.b
      have HO := Lib.hid (show textS D.1 = textS out by rw [← ho])
      have HBD := Lib.hid hbd
      clear ho hbd
      go_wp2_with fail
      refine (ref02_Text _ _ wr.heap.size _ (Reads.of_own qf.o (by unfold maxLen; omega)) (Nat.le_refl _) (by omega)).mono ?_
      rintro e w11 ⟨rfl, hb11⟩
      go_wp2_with fail
      go_ret2
      refine ⟨_, by rw [HO.out]; rfl, ?_, qf.bl.trans (hb11.mono qf.bl.size)⟩
      rw [← HBD.out]
      exact ((Reads.of_own qf.b (by unfold maxLen; omega)).below hb11 (Nat.le_refl _)).mono hb11.size
end Go.Proofs.Ytppabccedmdajaa
