/-
  The walks of Encode, in single and in the reference.
-/
import Derived.Test.YtnpglglhhjjehaaSgF
namespace Go.Proofs.Ytnpglglhhjjehaa
open Go.RowKit
def badP (e : Int) (p : Int × Nat) : Bool := decide (p.1 < 0) || !(byteOf e p.1).isSome
def badAt (e : Int) : Nat → List (Int × Nat) → Int
  | _, [] => -1
  | a, p :: r => if badP e p then a else badAt e (a + p.2) r
def outB (e : Int) (ps : List (Int × Nat)) : List Int := ps.map fun p => (byteOf e p.1).getD 0
def encAt (e : Int) (s : ByteArray) : Int := if isEnc e then badAt e 0 (pieces (nums s)) else -1
def encGood (e : Int) (s : ByteArray) : Bool := isEnc e && decide (encAt e s < 0)
def encT (e : Int) (s : ByteArray) : ByteArray := if encGood e s then strOfNums (outB e (pieces (nums s))) else ⟨#[]⟩
def encK (e : Int) (s : ByteArray) : Int := if encGood e s then 0 else 2
theorem enc_no {e : Int} (he : isEnc e = false) (s : ByteArray) : encT e s = ⟨#[]⟩ ∧ encAt e s = -1 ∧ encK e s = 2 := by
  have h : encGood e s = false := by unfold encGood; rw [he]; rfl
  refine ⟨?_, ?_, ?_⟩
  · unfold encT; rw [h]; rfl
  · unfold encAt; rw [he]; rfl
  · unfold encK; rw [h]; rfl
theorem enc_bad {e : Int} (he : isEnc e = true) (s : ByteArray) (k : Nat) (h : badAt e 0 (pieces (nums s)) = k) : encT e s = ⟨#[]⟩ ∧ encAt e s = k ∧ encK e s = 2 := by
  have h1 : encAt e s = k := by unfold encAt; rw [he, ← h]; rfl
  have h2 : encGood e s = false := by unfold encGood; rw [he, h1, decide_eq_false (by omega)]; rfl
  refine ⟨?_, h1, ?_⟩
  · unfold encT; rw [h2]; rfl
  · unfold encK; rw [h2]; rfl
theorem enc_good {e : Int} (he : isEnc e = true) (s : ByteArray) (h : badAt e 0 (pieces (nums s)) = -1) : encT e s = strOfNums (outB e (pieces (nums s))) ∧ encAt e s = -1 ∧ encK e s = 0 := by
  have h1 : encAt e s = -1 := by unfold encAt; rw [he, ← h]; rfl
  have h2 : encGood e s = true := by unfold encGood; rw [he, h1]; rfl
  refine ⟨?_, h1, ?_⟩
  · unfold encT; rw [h2]; rfl
  · unfold encK; rw [h2]; rfl
theorem outB_snoc (e : Int) (ps : List (Int × Nat)) (p : Int × Nat) : outB e (ps ++ [p]) = outB e ps ++ [(byteOf e p.1).getD 0] := by simp [outB]
/-- so far all is told, and its bytes are gathered. -/
def EncIn (e : Int) (s : ByteArray) (B : Nat) (w0 : World) (v at_ : Value) (wr : World) : Prop :=
  ∃ (k : Nat) (done : List (Int × Nat)), at_ = .int .i64 k ∧ k ≤ s.size ∧ done.length ≤ k ∧ badAt e 0 (pieces (nums s)) = badAt e k (pieces ((nums s).drop k)) ∧ pieces (nums s) = done ++ pieces ((nums s).drop k) ∧
    wr.ownsRow B 5 1 v done.length ((outB e done).map (Value.int .u8)) ∧ Below B w0 wr
theorem mapD (o : Option Int) : (o.map (Value.int .u8)).getD (.int .u8 0) = .int .u8 (o.getD 0) := by cases o <;> rfl
set_option maxRecDepth 100000 in
set_option maxHeartbeats 2000000 in
theorem ref04_Encode (e : Int) (s : ByteArray) (w : World) (hs : s.size ≤ 1000000) :
    Calls Try.prog 17 #[.int .i8 e, .string s] w fun r w' => r = .returned (.tuple #[.string (encT e s), .int .i64 (encAt e s), .int .i64 (encK e s)]) ∧ Below w.heap.size w w' := by
  cases he : isEnc e with
  | false =>
    have HT := Lib.hid (tabL_no he)
    have HE := Lib.hid (enc_no he s)
    go_enter Try.func17, Try.ntmps17
    go_wp2_with fail
    refine (ref04_Table _ _).mono ?_
    rw [HT.out]
    rintro e' w1 ⟨v, rfl, ho, hb⟩
    obtain ⟨a, cap, rfl, hl, hc⟩ := (Reads.of_own ho (by unfold maxLen; simp)).open
    clear ho hc
    go_wp2
    go_ret3
    exact ⟨by rw [HE.out.1, HE.out.2.1, HE.out.2.2]; rfl, hb⟩
  | true =>
    obtain ⟨T, hT, hTl, hTa⟩ := tab_open he
    have HT := Lib.hid hT
    have HI := Lib.hid he
    clear hT hTa he
    go_enter Try.func17, Try.ntmps17
    go_wp2_with fail
    refine (ref04_Table _ _).mono ?_
    rw [HT.out]
    rintro e' w1 ⟨v, rfl, ho, hb1⟩
    obtain ⟨a, cap, rfl, hl, hc⟩ := (Reads.of_own ho (by unfold maxLen; omega)).open
    have hT0 : ((T.length : Int) == 0) = false := by rw [hTl]; rfl
    clear ho hc
    go_wp2_with fail
    go_loopw [7, 8] (fun v i wr => EncIn e s w1.heap.size w1 v i wr) (fun _ i _ => s.size - (intOf i).toNat)
    case atStart => exact ⟨0, [], rfl, by omega, by simp, rfl, by simp, World.ownsRow_nil _ _ _ _, Below.refl _ _⟩
    case round =>
      obtain ⟨k, done, rfl, hk, hdk, hba, hq, hown, hb⟩ := hrel
      by_cases hlt : k < s.size
      · have hpd := pieces_drop hlt
        have hpl := piece_drop_le hlt
        obtain ⟨p, hp⟩ : ∃ p, piece ((nums s).drop k) = p := ⟨_, rfl⟩
        by_cases hneg : p.1 < 0
        · have hbd : badAt e 0 (pieces (nums s)) = k := by
            rw [hba, hpd, hp, badAt, if_pos (by unfold badP; rw [decide_eq_true hneg]; rfl)]
          have HE := Lib.hid (enc_bad HI.out s k hbd)
          clear hpd hq hba hbd
          go_wp2_with fail
          refine (ref02_Next_no s k _ (by omega) hlt (by rw [hp]; exact hneg)).mono ?_
          rintro e' w' ⟨rfl, rfl⟩
          go_wp2_with fail
          refine (ref04_Byte e 0 _).mono ?_
          rintro e' w3 ⟨rfl, hb3⟩
          go_wp2
          go_ret3
          exact ⟨by rw [HE.out.1, HE.out.2.1, HE.out.2.2]; rfl, hb1.trans ((hb.trans (hb3.mono hb.size)).mono hb1.size)⟩
        · cases hz : (byteOf e p.1).isSome with
          | false =>
            have hbd : badAt e 0 (pieces (nums s)) = k := by
              rw [hba, hpd, hp, badAt, if_pos (by unfold badP; rw [hz]; simp)]
            have HE := Lib.hid (enc_bad HI.out s k hbd)
            have HZ := Lib.hid hz
            have HP := Lib.hid hp
            clear hpd hq hba hbd hz hp
            go_wp2_with fail
            refine (ref02_Next_ok s k _ (by omega) hlt p HP.out (by omega)).mono ?_
            rintro e' w' ⟨rfl, rfl⟩
            go_wp2_with fail
            refine (ref04_Byte e p.1 _).mono ?_
            rw [HZ.out]
            rintro e' w3 ⟨rfl, hb3⟩
            go_wp2
            go_ret3
            exact ⟨by rw [HE.out.1, HE.out.2.1, HE.out.2.2]; rfl, hb1.trans ((hb.trans (hb3.mono hb.size)).mono hb1.size)⟩
          | true =>
            obtain ⟨y, hy⟩ : ∃ y, (byteOf e p.1).getD 0 = y := ⟨_, rfl⟩
            have happ := fun (w' : World) (hb2 : Below wr.heap.size wr w') => app_u8 w' w1.heap.size u7 done.length (outB e done) (own_below hown hb2 (Nat.le_refl _)) y (by omega) (Nat.le_trans hb.size hb2.size)
            have hrel1 : ∀ v' w4 x, x = Value.int .i64 (k + p.2 : Nat) → w4.ownsRow w1.heap.size 5 1 v' (done.length + 1) ((outB e done ++ [y]).map (Value.int .u8)) → Below w1.heap.size w1 w4 → EncIn e s w1.heap.size w1 v' x w4 := by
              intro v' w4 x hx ho hb4
              refine ⟨k + p.2, done ++ [p], hx, by rw [hp] at hpl; omega, by rw [hp] at hpl; simp; omega, ?_, by rw [hq, hpd, hp]; simp, ?_, hb4⟩
              · rw [hba, hpd, hp, badAt, if_neg (by unfold badP; rw [hz, decide_eq_false hneg]; simp)]
              · rw [outB_snoc, hy, List.length_append]; exact ho
            have hpl2 : 1 ≤ p.2 ∧ k + p.2 ≤ s.size := by rw [hp] at hpl; exact hpl
            have HP := Lib.hid hp
            have HA := Lib.hid happ
            have HL := Lib.hid hrel1
            have HZ := Lib.hid hz
            have HY := Lib.hid hy
            clear hpd hq hba hp hown hpl happ hrel1 hz hy
            go_wp2_with fail
            refine (ref02_Next_ok s k _ (by omega) hlt p HP.out (by omega)).mono ?_
            rintro e' w' ⟨rfl, rfl⟩
            go_wp2_with fail
            refine (ref04_Byte e p.1 _).mono ?_
            rw [HZ.out, HY.out]
            rintro e' w3 ⟨rfl, hb3⟩
            obtain ⟨v', w4, hr, ho4, hb4, _⟩ := HA.out w3 hb3
            have HR := Lib.hid (show _ = _ from hr)
            clear hr
            go_wp2_with (at_builtin; refine wpList_append_run rfl _ _ _ _ rfl _ _ rfl rfl _ _ HR.out ?_)
            exact ⟨HL.out _ _ _ (by go_num) ho4 (hb.trans ((hb3.mono hb.size).trans hb4)), by simp [intOf]; omega⟩
      · have hend := pieces_drop_end (s := s) (k := k) (by omega)
        rw [hend, List.append_nil] at hq
        have HE := Lib.hid (enc_good HI.out s (by rw [hba, hend]; rfl))
        have hconv := conv_own wr w1.heap.size u7 _ _ hown
        rw [← hq] at hconv
        have HC := Lib.hid hconv
        clear hend hq hba hconv hown
        have hconv := HC.out
        go_wp2
        go_ret3
        exact ⟨by rw [HE.out.1, HE.out.2.1, HE.out.2.2]; rfl, hb1.trans (hb.mono hb1.size)⟩
end Go.Proofs.Ytnpglglhhjjehaa
