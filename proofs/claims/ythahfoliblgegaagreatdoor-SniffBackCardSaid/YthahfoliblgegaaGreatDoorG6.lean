/-
  Parts SgG SgH Lo Nu LaP LaA By LaB MeV LaC LaD of this seat's texts, in one file: contracts of functions that the law reaches, and the plain laws behind them. No condition.
-/
import Derived.Test.YthahfoliblgegaaGreatDoorG5
import Derived.Test.YthahfoliblgegaaGreatDoorG1
import Derived.WalkKit
import Derived.Lib.CutLaws
import Derived.Test.YthahfoliblgegaaGreatDoorOp
import Derived.Test.YthahfoliblgegaaGreatDoorTb
import Derived.Test.YthahfoliblgegaaGreatDoorLib
import Derived.Lib.ConvBytes
import Derived.Lib.BufferMore
import Derived.Deep.CutBlock
import Derived.Deep.DeepCutAuto
import Derived.Laws.Rows
import Derived.Laws.ResultCell
import Derived.Test.YthahfoliblgegaaGreatDoorG2
/- 
  The walks of Encode, in single and in the reference.
 -/
namespace Go.Proofs.YthahfoliblgegaaGreatDoor
open Go.RowKit
def badP (e : Int) (p : Int × Nat) : Bool := decide (p.1 < 0) || !(byteOf e p.1).isSome
def badAt (e : Int) : Nat → List (Int × Nat) → Int
  | _, [] => -1
  | a, p :: r => if badP e p then a else badAt e (a + p.2) r
def outB (e : Int) (ps : List (Int × Nat)) : List Int := ps.map fun p => (byteOf e p.1).getD 0
def encAt (e : Int) (s : ByteArray) : Int := if isEnc e then badAt e 0 (pieces (nums s)) else -1
def encGood (e : Int) (s : ByteArray) : Bool := isEnc e && decide (encAt e s < 0)
def encT (e : Int) (s : ByteArray) : ByteArray := if encGood e s then strOfNums (outB e (pieces (nums s))) else ⟨#[]⟩
def encK (e : Int) (s : ByteArray) : Int := if encGood e s then 0 else 2
theorem enc_no {e : Int} (he : isEnc e = false) (s : ByteArray) : encT e s = ⟨#[]⟩ ∧ encAt e s = -1 ∧ encK e s = 2 := by
  have h : encGood e s = false := by unfold encGood; rw [he]; rfl
  refine ⟨?_, ?_, ?_⟩
  · unfold encT; rw [h]; rfl
  · unfold encAt; rw [he]; rfl
  · unfold encK; rw [h]; rfl
theorem enc_bad {e : Int} (he : isEnc e = true) (s : ByteArray) (k : Nat) (h : badAt e 0 (pieces (nums s)) = k) : encT e s = ⟨#[]⟩ ∧ encAt e s = k ∧ encK e s = 2 := by
  have h1 : encAt e s = k := by unfold encAt; rw [he, ← h]; rfl
  have h2 : encGood e s = false := by unfold encGood; rw [he, h1, decide_eq_false (by omega)]; rfl
  refine ⟨?_, h1, ?_⟩
  · unfold encT; rw [h2]; rfl
  · unfold encK; rw [h2]; rfl
theorem enc_good {e : Int} (he : isEnc e = true) (s : ByteArray) (h : badAt e 0 (pieces (nums s)) = -1) : encT e s = strOfNums (outB e (pieces (nums s))) ∧ encAt e s = -1 ∧ encK e s = 0 := by
  have h1 : encAt e s = -1 := by unfold encAt; rw [he, ← h]; rfl
  have h2 : encGood e s = true := by unfold encGood; rw [he, h1]; rfl
  refine ⟨?_, h1, ?_⟩
  · unfold encT; rw [h2]; rfl
  · unfold encK; rw [h2]; rfl
theorem outB_snoc (e : Int) (ps : List (Int × Nat)) (p : Int × Nat) : outB e (ps ++ [p]) = outB e ps ++ [(byteOf e p.1).getD 0] := by simp [outB]
/-- so far all is told, and its bytes are gathered. -/
def EncIn (e : Int) (s : ByteArray) (B : Nat) (w0 : World) (v at_ : Value) (wr : World) : Prop :=
  ∃ (k : Nat) (done : List (Int × Nat)), at_ = .int .i64 k ∧ k ≤ s.size ∧ done.length ≤ k ∧ badAt e 0 (pieces (nums s)) = badAt e k (pieces ((nums s).drop k)) ∧ pieces (nums s) = done ++ pieces ((nums s).drop k) ∧
    wr.ownsRow B 5 1 v done.length ((outB e done).map (Value.int .u8)) ∧ Below B w0 wr
theorem mapD (o : Option Int) : (o.map (Value.int .u8)).getD (.int .u8 0) = .int .u8 (o.getD 0) := by cases o <;> rfl
set_option maxRecDepth 100000 in
set_option maxHeartbeats 2000000 in
theorem ref04_Encode (e : Int) (s : ByteArray) (w : World) (hs : s.size ≤ 1000000) :
    Calls Tryz.prog 47 #[.int .i8 e, .string s] w fun r w' => r = .returned (.tuple #[.string (encT e s), .int .i64 (encAt e s), .int .i64 (encK e s)]) ∧ Below w.heap.size w w' := by
  cases he : isEnc e with
  | false =>
    have HT := Lib.hid (tabL_no he)
    have HE := Lib.hid (enc_no he s)
    go_enter Tryz.func47, Tryz.ntmps47
    go_wp2_with fail
    refine (ref04_Table _ _).mono ?_
    rw [HT.out]
    rintro e' w1 ⟨v, rfl, ho, hb⟩
    obtain ⟨a, cap, rfl, hl, hc⟩ := (Reads.of_own ho (by unfold maxLen; simp)).open
    clear ho hc
    go_wp2
    go_ret3
    exact ⟨by rw [HE.out.1, HE.out.2.1, HE.out.2.2]; rfl, hb⟩
  | true =>
    obtain ⟨T, hT, hTl, hTa⟩ := tab_open he
    have HT := Lib.hid hT
    have HI := Lib.hid he
    clear hT hTa he
    go_enter Tryz.func47, Tryz.ntmps47
    go_wp2_with fail
    refine (ref04_Table _ _).mono ?_
    rw [HT.out]
    rintro e' w1 ⟨v, rfl, ho, hb1⟩
    obtain ⟨a, cap, rfl, hl, hc⟩ := (Reads.of_own ho (by unfold maxLen; omega)).open
    have hT0 : ((T.length : Int) == 0) = false := by rw [hTl]; rfl
    clear ho hc
    go_wp2_with fail
    go_loopw [7, 8] (fun v i wr => EncIn e s w1.heap.size w1 v i wr) (fun _ i _ => s.size - (intOf i).toNat)
    case atStart => exact ⟨0, [], rfl, by omega, by simp, rfl, by simp, World.ownsRow_nil _ _ _ _, Below.refl _ _⟩
    case round =>
      obtain ⟨k, done, rfl, hk, hdk, hba, hq, hown, hb⟩ := hrel
      by_cases hlt : k < s.size
      · have hpd := pieces_drop hlt
        have hpl := piece_drop_le hlt
        obtain ⟨p, hp⟩ : ∃ p, piece ((nums s).drop k) = p := ⟨_, rfl⟩
        by_cases hneg : p.1 < 0
        · have hbd : badAt e 0 (pieces (nums s)) = k := by
            rw [hba, hpd, hp, badAt, if_pos (by unfold badP; rw [decide_eq_true hneg]; rfl)]
          have HE := Lib.hid (enc_bad HI.out s k hbd)
          clear hpd hq hba hbd
          go_wp2_with fail
          refine (ref02_Next_no s k _ (by omega) hlt (by rw [hp]; exact hneg)).mono ?_
          rintro e' w' ⟨rfl, rfl⟩
          go_wp2_with fail
          refine (ref04_Byte e 0 _).mono ?_
          rintro e' w3 ⟨rfl, hb3⟩
          go_wp2
          go_ret3
          exact ⟨by rw [HE.out.1, HE.out.2.1, HE.out.2.2]; rfl, hb1.trans ((hb.trans (hb3.mono hb.size)).mono hb1.size)⟩
        · cases hz : (byteOf e p.1).isSome with
          | false =>
            have hbd : badAt e 0 (pieces (nums s)) = k := by
              rw [hba, hpd, hp, badAt, if_pos (by unfold badP; rw [hz]; simp)]
            have HE := Lib.hid (enc_bad HI.out s k hbd)
            have HZ := Lib.hid hz
            have HP := Lib.hid hp
            clear hpd hq hba hbd hz hp
            go_wp2_with fail
            refine (ref02_Next_ok s k _ (by omega) hlt p HP.out (by omega)).mono ?_
            rintro e' w' ⟨rfl, rfl⟩
            go_wp2_with fail
            refine (ref04_Byte e p.1 _).mono ?_
            rw [HZ.out]
            rintro e' w3 ⟨rfl, hb3⟩
            go_wp2
            go_ret3
            exact ⟨by rw [HE.out.1, HE.out.2.1, HE.out.2.2]; rfl, hb1.trans ((hb.trans (hb3.mono hb.size)).mono hb1.size)⟩
          | true =>
            obtain ⟨y, hy⟩ : ∃ y, (byteOf e p.1).getD 0 = y := ⟨_, rfl⟩
            have happ := fun (w' : World) (hb2 : Below wr.heap.size wr w') => app_u8 w' w1.heap.size u7 done.length (outB e done) (own_below hown hb2 (Nat.le_refl _)) y (by omega) (Nat.le_trans hb.size hb2.size)
            have hrel1 : ∀ v' w4 x, x = Value.int .i64 (k + p.2 : Nat) → w4.ownsRow w1.heap.size 5 1 v' (done.length + 1) ((outB e done ++ [y]).map (Value.int .u8)) → Below w1.heap.size w1 w4 → EncIn e s w1.heap.size w1 v' x w4 := by
              intro v' w4 x hx ho hb4
              refine ⟨k + p.2, done ++ [p], hx, by rw [hp] at hpl; omega, by rw [hp] at hpl; simp; omega, ?_, by rw [hq, hpd, hp]; simp, ?_, hb4⟩
              · rw [hba, hpd, hp, badAt, if_neg (by unfold badP; rw [hz, decide_eq_false hneg]; simp)]
              · rw [outB_snoc, hy, List.length_append]; exact ho
            have hpl2 : 1 ≤ p.2 ∧ k + p.2 ≤ s.size := by rw [hp] at hpl; exact hpl
            have HP := Lib.hid hp
            have HA := Lib.hid happ
            have HL := Lib.hid hrel1
            have HZ := Lib.hid hz
            have HY := Lib.hid hy
            clear hpd hq hba hp hown hpl happ hrel1 hz hy
            go_wp2_with fail
            refine (ref02_Next_ok s k _ (by omega) hlt p HP.out (by omega)).mono ?_
            rintro e' w' ⟨rfl, rfl⟩
            go_wp2_with fail
            refine (ref04_Byte e p.1 _).mono ?_
            rw [HZ.out, HY.out]
            rintro e' w3 ⟨rfl, hb3⟩
            obtain ⟨v', w4, hr, ho4, hb4, _⟩ := HA.out w3 hb3
            have HR := Lib.hid (show _ = _ from hr)
            clear hr
            go_wp2_with (at_builtin; refine wpList_append_run rfl _ _ _ _ rfl _ _ rfl rfl _ _ HR.out ?_)
            exact ⟨HL.out _ _ _ (by go_num) ho4 (hb.trans ((hb3.mono hb.size).trans hb4)), by simp [intOf]; omega⟩
      · have hend := pieces_drop_end (s := s) (k := k) (by omega)
        rw [hend, List.append_nil] at hq
        have HE := Lib.hid (enc_good HI.out s (by rw [hba, hend]; rfl))
        have hconv := conv_own wr w1.heap.size u7 _ _ hown
        rw [← hq] at hconv
        have HC := Lib.hid hconv
        clear hend hq hba hconv hown
        have hconv := HC.out
        go_wp2
        go_ret3
        exact ⟨by rw [HE.out.1, HE.out.2.1, HE.out.2.2]; rfl, hb1.trans (hb.mono hb1.size)⟩
end Go.Proofs.YthahfoliblgegaaGreatDoor
/- 
  The walk of single.Encode.
 -/
namespace Go.Proofs.YthahfoliblgegaaGreatDoor
open Go.RowKit
theorem IMap.len {W : World} {kk : IntKind} {b : Nat} {L : List (Int × Value)} (h : IMap W kk b L) {t kt et : TypeId} (ht : Tryz.prog.underlying t = some (.map kt et)) (ty : TypeId) :
    (Builtin.len_ #[t] ty #[.map (some b)]).run Tryz.prog W = .ok (.int .i64 L.length) W := by
  obtain ⟨es, clock, hb, hL⟩ := h
  have e1 : es.size = L.length := by
    have := congrArg List.length hL
    simpa using this
  rw [← e1]
  simp [Builtin.len_, run_underlying ht, MapKept.run_getObj_map hb, goInt, Result.andThen]
theorem ivb_length (L : List (Int × Int)) : (ivb L).length = L.length := List.length_map ..
theorem backL_len {e : Int} (he : isEnc e = true) : (backL e).length = 256 := by
  have hc := of_decide_eq_true he
  rcases hc with rfl | rfl | rfl <;> decide +kernel
theorem backL_no {e : Int} (he : isEnc e = false) : backL e = [] := by unfold backL; rw [tabL_no he]; rfl
theorem back_look {w : World} {b : Nat} {e : Int} (im : IMap w .i64 b (ivb (backL e))) (x : Int) :
    (Instr.lookup 115 (.map (some b)) (.int .i64 x) true).run Tryz.prog w = .ok (.tuple #[.int .u8 ((byteOf e x).getD 0), .bool (byteOf e x).isSome]) w := by
  have h := (im.lookup (t := 115) Tryz.underlying115 Tryz.underlying3 (.int .u8 0) (zU8 _) x).1
  rw [ivb_get, backL_get, mapD, Option.isSome_map] at h
  exact h
set_option maxRecDepth 100000 in
set_option maxHeartbeats 2000000 in
theorem single_Encode (e : Int) (s : ByteArray) (w : World) (hs : s.size ≤ 1000000) :
    Calls Tryz.prog 45 #[.int .i8 e, .string s] w fun r w' => r = .returned (.tuple #[.string (encT e s), .int .i64 (encAt e s), .int .i64 (encK e s)]) ∧ Below w.heap.size w w' := by
  cases he : isEnc e with
  | false =>
    have HE := Lib.hid (enc_no he s)
    have HB := Lib.hid (backL_no he)
    go_enter Tryz.func45, Tryz.ntmps45
    go_wp2_with fail
    refine (single_back _ _).mono ?_
    rw [HB.out]
    rintro e' w1 ⟨b, rfl, im, hb⟩
    have hlen := im.len (t := 115) Tryz.underlying115
    have hl0 : ((ivb []).length : Int) = 0 := rfl
    rw [hl0] at hlen
    go_wp2
    go_ret3
    exact ⟨by rw [HE.out.1, HE.out.2.1, HE.out.2.2]; rfl, hb⟩
  | true =>
    have HI := Lib.hid he
    have HBl := Lib.hid (backL_len he)
    clear he
    go_enter Tryz.func45, Tryz.ntmps45
    go_wp2_with fail
    refine (single_back _ _).mono ?_
    rintro e' w1 ⟨b, rfl, im, hb1⟩
    have hlen := im.len (t := 115) Tryz.underlying115
    rw [ivb_length, HBl.out] at hlen
    have HM := Lib.hid im
    clear im
    go_wp2_with fail
    go_loopw [8, 9] (fun v i wr => EncIn e s w1.heap.size w1 v i wr) (fun _ i _ => s.size - (intOf i).toNat)
    case atStart => exact ⟨0, [], rfl, by omega, by simp, rfl, by simp, World.ownsRow_nil _ _ _ _, Below.refl _ _⟩
    case round =>
      obtain ⟨k, done, rfl, hk, hdk, hba, hq, hown, hb⟩ := hrel
      have im := HM.out.below hb (Nat.le_refl _)
      by_cases hlt : k < s.size
      · have hpd := pieces_drop hlt
        have hpl := piece_drop_le hlt
        obtain ⟨p, hp⟩ : ∃ p, piece ((nums s).drop k) = p := ⟨_, rfl⟩
        by_cases hneg : p.1 < 0
        · have hbd : badAt e 0 (pieces (nums s)) = k := by
            rw [hba, hpd, hp, badAt, if_pos (by unfold badP; rw [decide_eq_true hneg]; rfl)]
          have HE := Lib.hid (enc_bad HI.out s k hbd)
          have hlk := back_look im 0
          clear hpd hq hba hbd im
          go_wp2_with fail
          refine (utf8_Next_no s k _ (by omega) hlt (by rw [hp]; exact hneg)).mono ?_
          rintro e' w' ⟨rfl, rfl⟩
          go_wp2
          go_ret3
          exact ⟨by rw [HE.out.1, HE.out.2.1, HE.out.2.2]; rfl, hb1.trans (hb.mono hb1.size)⟩
        · cases hz : (byteOf e p.1).isSome with
          | false =>
            have hbd : badAt e 0 (pieces (nums s)) = k := by
              rw [hba, hpd, hp, badAt, if_pos (by unfold badP; rw [hz]; simp)]
            have HE := Lib.hid (enc_bad HI.out s k hbd)
            have hlk := back_look im p.1
            rw [hz] at hlk
            have HP := Lib.hid hp
            clear hpd hq hba hbd hz hp im
            go_wp2_with fail
            refine (utf8_Next_ok s k _ (by omega) hlt p HP.out (by omega)).mono ?_
            rintro e' w' ⟨rfl, rfl⟩
            go_wp2
            go_ret3
            exact ⟨by rw [HE.out.1, HE.out.2.1, HE.out.2.2]; rfl, hb1.trans (hb.mono hb1.size)⟩
          | true =>
            obtain ⟨y, hy⟩ : ∃ y, (byteOf e p.1).getD 0 = y := ⟨_, rfl⟩
            have hlk := back_look im p.1
            rw [hz, hy] at hlk
            obtain ⟨v', w4, hr, ho4, hb4, _⟩ := app_u8 wr w1.heap.size u8 done.length (outB e done) hown y (by omega) hb.size
            have hrel1 : ∀ x, x = Value.int .i64 (k + p.2 : Nat) → EncIn e s w1.heap.size w1 v' x w4 := by
              intro x hx
              refine ⟨k + p.2, done ++ [p], hx, by rw [hp] at hpl; omega, by rw [hp] at hpl; simp; omega, ?_, by rw [hq, hpd, hp]; simp, ?_, hb.trans hb4⟩
              · rw [hba, hpd, hp, badAt, if_neg (by unfold badP; rw [hz, decide_eq_false hneg]; simp)]
              · rw [outB_snoc, hy, List.length_append]; exact ho4
            have hpl2 : 1 ≤ p.2 ∧ k + p.2 ≤ s.size := by rw [hp] at hpl; exact hpl
            have HP := Lib.hid hp
            have HL := Lib.hid hrel1
            have HR := Lib.hid (show _ = _ from hr)
            clear hpd hq hba hp hown hpl hrel1 hz hy im hr
            go_wp2_with (first
              | (at_builtin; refine wpList_append_run rfl _ _ _ _ rfl _ _ rfl rfl _ _ HR.out ?_)
              | (go_at_call 88; refine (utf8_Next_ok s k _ (by omega) hlt p HP.out (by omega)).mono ?_; rintro e' w' ⟨rfl, rfl⟩))
            exact ⟨HL.out _ (by go_num), by simp [intOf]; omega⟩
      · have hend := pieces_drop_end (s := s) (k := k) (by omega)
        rw [hend, List.append_nil] at hq
        have HE := Lib.hid (enc_good HI.out s (by rw [hba, hend]; rfl))
        have hconv := conv_own wr w1.heap.size u8 _ _ hown
        rw [← hq] at hconv
        have HC := Lib.hid hconv
        clear hend hq hba hconv hown im
        have hconv := HC.out
        go_wp2
        go_ret3
        exact ⟨by rw [HE.out.1, HE.out.2.1, HE.out.2.2]; rfl, hb1.trans (hb.mono hb1.size)⟩
end Go.Proofs.YthahfoliblgegaaGreatDoor
/- 
  Lower case in plain terms; a row of bytes that is lowered byte by byte.
 -/
namespace Go.Proofs.YthahfoliblgegaaGreatDoor
def lowB (c : Int) : Int := if 65 ≤ c ∧ c ≤ 90 then c + 32 else c
def lowL (l : List Int) : List Int := l.map lowB
/-- the row of which k bytes are lowered. -/
def fillL (s : ByteArray) (k : Nat) : List Int := lowL ((nums s).take k) ++ (nums s).drop k
theorem fillL_len (s : ByteArray) (k : Nat) : (fillL s k).length = s.size := by
  unfold fillL lowL
  rw [List.length_append, List.length_map, List.length_take, List.length_drop, nums_length]
  omega
theorem fillL_zero (s : ByteArray) : fillL s 0 = nums s := by unfold fillL lowL; simp
theorem fillL_end (s : ByteArray) : fillL s s.size = lowL (nums s) := by
  unfold fillL
  rw [← nums_length s, List.take_length, List.drop_length, List.append_nil]
theorem nums_take (s : ByteArray) (k : Nat) (h : k < s.size) : (nums s).take (k + 1) = (nums s).take k ++ [(s[k].toNat : Int)] := by
  have h1 := nums_drop s k h
  rw [List.take_add_one]
  have h2 : (nums s)[k]? = some (s[k].toNat : Int) := by
    have := congrArg List.head? h1
    rw [List.head?_drop] at this
    exact this
  rw [h2]
  rfl
theorem fillL_at (s : ByteArray) (k : Nat) (h : k < s.size) : (fillL s k)[k]'(by rw [fillL_len]; exact h) = (s[k].toNat : Int) := by
  have hl : (lowL ((nums s).take k)).length = k := by unfold lowL; rw [List.length_map, List.length_take, nums_length]; omega
  have h3 : (fillL s k)[k]? = some (s[k].toNat : Int) := by
    unfold fillL
    rw [List.getElem?_append_right (by omega), hl, Nat.sub_self, nums_drop s k h]
    rfl
  rw [List.getElem?_eq_getElem (by rw [fillL_len]; exact h)] at h3
  exact Option.some.inj h3
theorem fillL_step (s : ByteArray) (k : Nat) (h : k < s.size) : fillL s (k + 1) = (fillL s k).set k (lowB (s[k].toNat : Int)) := by
  have hl : (lowL ((nums s).take k)).length = k := by unfold lowL; rw [List.length_map, List.length_take, nums_length]; omega
  unfold fillL
  rw [List.set_append_right _ _ (by omega), hl, Nat.sub_self, nums_drop s k h, nums_take s k h]
  unfold lowL
  rw [List.map_append, List.append_assoc]
  rfl
theorem or32 (c : Nat) (h0 : 65 ≤ c) (h1 : c ≤ 90) : bits .or .u8 (c : Int) 32 = (c : Int) + 32 := by
  have h := List.all_eq_true.1 (show ((List.range 256).all fun c => decide (65 ≤ c ∧ c ≤ 90 → bits .or .u8 (c : Int) 32 = (c : Int) + 32)) = true by decide +kernel) c (List.mem_range.2 (by omega))
  exact of_decide_eq_true h ⟨h0, h1⟩
end Go.Proofs.YthahfoliblgegaaGreatDoor
/- 
  Bytes as numbers; the library's index of a text, step by step. No program in sight.
 -/
namespace Go.Proofs.YthahfoliblgegaaGreatDoor
open Go.Lib
theorem index_cons (c : UInt8) (t sub : List UInt8) (hn : sub.isPrefixOf (c :: t) = false) : Lib.index (c :: t) sub = if Lib.index t sub = -1 then -1 else Lib.index t sub + 1 := by
  rw [Lib.index, hn]
  simp
theorem index_pre (s sub : List UInt8) (h : sub.isPrefixOf s = true) : Lib.index s sub = 0 := Lib.index_first (i := 0) (Nat.zero_le _) (by simpa [Lib.occAt] using h) (fun _ h => absurd h (Nat.not_lt_zero _))
/-- bytes as numbers. -/
def numsL (l : List UInt8) : List Int := l.map fun c => (c.toNat : Int)
theorem numsL_of (s : ByteArray) : numsL s.data.toList = nums s := rfl
theorem numsL_mk (l : List UInt8) : nums ⟨l.toArray⟩ = numsL l := by unfold nums numsL; simp
theorem u8_eq (c : UInt8) (n : Nat) (hn : n < 256) : (c.toNat : Int) = (n : Int) ↔ c = UInt8.ofNat n := by
  constructor
  · intro h
    apply UInt8.toNat_inj.1
    rw [UInt8.toNat_ofNat']
    omega
  · intro h
    rw [h, UInt8.toNat_ofNat']
    omega
end Go.Proofs.YthahfoliblgegaaGreatDoor
/- 
  Layer 5 in plain terms: the labels, white space trimmed, lower case; which encoding a label names.
 -/
namespace Go.Proofs.YthahfoliblgegaaGreatDoor
def lab0 : List ByteArray := [⟨#[117, 116, 102, 45, 56]⟩, ⟨#[117, 116, 102, 56]⟩, ⟨#[117, 110, 105, 99, 111, 100, 101, 45, 49, 45, 49, 45, 117, 116, 102, 45, 56]⟩, ⟨#[117, 110, 105, 99, 111, 100, 101, 49, 49, 117, 116, 102, 56]⟩, ⟨#[120, 45, 117, 110, 105, 99, 111, 100, 101, 50, 48, 117, 116, 102, 56]⟩]
def lab1 : List ByteArray := [⟨#[117, 116, 102, 45, 49, 54]⟩, ⟨#[117, 116, 102, 45, 49, 54, 108, 101]⟩, ⟨#[117, 99, 115, 45, 50]⟩, ⟨#[105, 115, 111, 45, 49, 48, 54, 52, 54, 45, 117, 99, 115, 45, 50]⟩, ⟨#[99, 115, 117, 110, 105, 99, 111, 100, 101]⟩, ⟨#[117, 110, 105, 99, 111, 100, 101]⟩, ⟨#[117, 110, 105, 99, 111, 100, 101, 102, 101, 102, 102]⟩]
def lab2 : List ByteArray := [⟨#[117, 116, 102, 45, 49, 54, 98, 101]⟩, ⟨#[117, 110, 105, 99, 111, 100, 101, 102, 102, 102, 101]⟩]
def lab3 : List ByteArray := [⟨#[119, 105, 110, 100, 111, 119, 115, 45, 49, 50, 53, 50]⟩, ⟨#[99, 112, 49, 50, 53, 50]⟩, ⟨#[120, 45, 99, 112, 49, 50, 53, 50]⟩, ⟨#[97, 115, 99, 105, 105]⟩, ⟨#[117, 115, 45, 97, 115, 99, 105, 105]⟩, ⟨#[97, 110, 115, 105, 95, 120, 51, 46, 52, 45, 49, 57, 54, 56]⟩, ⟨#[105, 115, 111, 45, 56, 56, 53, 57, 45, 49]⟩, ⟨#[105, 115, 111, 56, 56, 53, 57, 45, 49]⟩, ⟨#[105, 115, 111, 95, 56, 56, 53, 57, 45, 49]⟩, ⟨#[105, 115, 111, 56, 56, 53, 57, 49]⟩, ⟨#[108, 97, 116, 105, 110, 49]⟩, ⟨#[108, 49]⟩, ⟨#[99, 112, 56, 49, 57]⟩, ⟨#[105, 98, 109, 56, 49, 57]⟩, ⟨#[99, 115, 105, 115, 111, 108, 97, 116, 105, 110, 49]⟩]
def lab4 : List ByteArray := [⟨#[105, 115, 111, 45, 56, 56, 53, 57, 45, 53]⟩, ⟨#[105, 115, 111, 56, 56, 53, 57, 45, 53]⟩, ⟨#[105, 115, 111, 95, 56, 56, 53, 57, 45, 53]⟩, ⟨#[105, 115, 111, 56, 56, 53, 57, 53]⟩, ⟨#[99, 121, 114, 105, 108, 108, 105, 99]⟩, ⟨#[99, 115, 105, 115, 111, 108, 97, 116, 105, 110, 99, 121, 114, 105, 108, 108, 105, 99]⟩]
def lab5 : List ByteArray := [⟨#[105, 115, 111, 45, 56, 56, 53, 57, 45, 49, 53]⟩, ⟨#[105, 115, 111, 56, 56, 53, 57, 45, 49, 53]⟩, ⟨#[105, 115, 111, 95, 56, 56, 53, 57, 45, 49, 53]⟩, ⟨#[105, 115, 111, 56, 56, 53, 57, 49, 53]⟩, ⟨#[108, 57]⟩, ⟨#[99, 115, 105, 115, 111, 108, 97, 116, 105, 110, 57]⟩]
/-- the labels of an encoding. -/
def labL (e : Int) : List ByteArray := if e = 0 then lab0 else if e = 1 then lab1 else if e = 2 then lab2 else if e = 3 then lab3 else if e = 4 then lab4 else if e = 5 then lab5 else []
/-- an encoding's labels, with it. -/
def pairP (e : Nat) : List (Int × ByteArray) := (labL e).map fun l => ((e : Int), l)
/-- all of them, from an encoding on. -/
def restP (e : Nat) : List (Int × ByteArray) := (List.range' e (6 - e)).flatMap pairP
theorem restP_step (e : Nat) (h : e < 6) : restP e = pairP e ++ restP (e + 1) := by
  unfold restP
  rw [show 6 - e = (6 - (e + 1)) + 1 by omega, List.range'_succ, List.flatMap_cons]
theorem restP_end : restP 6 = [] := rfl
/-- the encoding that a label names: the first that has it. -/
def ofP (s : ByteArray) : List (Int × ByteArray) → Int × Bool
  | [] => (0, false)
  | p :: r => if p.2.toList == s.toList then (p.1, true) else ofP s r
def ofS (s : ByteArray) : Int × Bool := ofP s (restP 0)
theorem ofP_none (s : ByteArray) : ∀ l, (∀ p ∈ l, (p.2.toList == s.toList) = false) → ofP s l = (0, false)
  | [], _ => rfl
  | p :: r, h => by rw [ofP, h p (List.mem_cons_self ..), if_neg (by decide)]; exact ofP_none s r fun q hq => h q (List.mem_cons_of_mem _ hq)
theorem ofP_some (s : ByteArray) : ∀ (l g : List (Int × ByteArray)) (x : Int × ByteArray), (g ++ [x]) <+: l → (∀ p ∈ g, (p.2.toList == s.toList) = false) → (x.2.toList == s.toList) = true → ofP s l = (x.1, true)
  | [], g, x, h, _, _ => by have := h.length_le; simp at this
  | p :: r, [], x, h, _, hx => by
    obtain ⟨t, ht⟩ := h
    have e : x = p := by injection ht
    subst e
    rw [ofP, if_pos hx]
  | p :: r, y :: g, x, h, hg, hx => by
    rw [List.cons_append, List.cons_prefix_cons] at h
    have h1 := hg y (List.mem_cons_self ..)
    rw [h.1] at h1
    rw [ofP, if_neg (by rw [h1]; decide), ofP_some s r g x h.2 (fun q hq => hg q (List.mem_cons_of_mem _ hq)) hx]
/-- an encoding's name. -/
def namS (e : Int) : ByteArray := match labL e with
  | [] => ⟨#[]⟩
  | l :: _ => l
def wsN (c : Int) : Bool := c == 9 || c == 10 || c == 12 || c == 13 || c == 32
/-- a text without the white space at its ends. -/
def trimN (l : List Int) : List Int := ((l.dropWhile wsN).reverse.dropWhile wsN).reverse
def trimS (s : ByteArray) : ByteArray := strOfNums (trimN (nums s))
def lowS (s : ByteArray) : ByteArray := strOfNums (lowL (nums s))
theorem lowB_ws (c : Int) : wsN (lowB c) = wsN c := by
  unfold lowB
  split
  · unfold wsN
    rw [Bool.eq_iff_iff]
    simp
    omega
  · rfl
theorem dropWhile_map (f : Int → Int) (P : Int → Bool) (h : ∀ c, P (f c) = P c) : ∀ l : List Int, (l.map f).dropWhile P = (l.dropWhile P).map f
  | [] => rfl
  | c :: t => by
    rw [List.map_cons, List.dropWhile_cons, List.dropWhile_cons, h c]
    split
    · exact dropWhile_map f P h t
    · rfl
theorem trim_low (l : List Int) : trimN (lowL l) = lowL (trimN l) := by
  unfold trimN lowL
  rw [dropWhile_map _ _ lowB_ws, ← List.map_reverse, dropWhile_map _ _ lowB_ws, List.map_reverse]
theorem low_low (l : List Int) : lowL (lowL l) = lowL l := by
  unfold lowL
  rw [List.map_map]
  apply List.map_congr_left
  intro c _
  show lowB (lowB c) = lowB c
  by_cases h : 65 ≤ c ∧ c ≤ 90
  · have e : lowB c = c + 32 := if_pos h
    rw [e]
    exact if_neg (by omega)
  · have e : lowB c = c := if_neg h
    rw [e, e]
theorem dropWhile_idem (P : Int → Bool) : ∀ l : List Int, (l.dropWhile P).dropWhile P = l.dropWhile P
  | [] => rfl
  | c :: t => by
    rw [List.dropWhile_cons]
    split
    · exact dropWhile_idem P t
    · rename_i h; rw [List.dropWhile_cons, if_neg h]
theorem dropWhile_pre (P : Int → Bool) (l m : List Int) (hm : m <+: l) (hl : l.dropWhile P = l) : m.dropWhile P = m := by
  cases m with
  | nil => rfl
  | cons c t =>
    obtain ⟨u, rfl⟩ := hm
    rw [List.cons_append, List.dropWhile_cons] at hl
    rw [List.dropWhile_cons]
    split at hl
    · have := congrArg List.length hl
      have h2 := (List.dropWhile_suffix P (l := t ++ u)).length_le
      rw [List.length_cons] at this
      omega
    · rename_i h; rw [if_neg h]
theorem trim_trim (l : List Int) : trimN (trimN l) = trimN l := by
  obtain ⟨r, hr⟩ : ∃ r, (l.dropWhile wsN).reverse.dropWhile wsN = r := ⟨_, rfl⟩
  have h1 : r.dropWhile wsN = r := by rw [← hr]; exact dropWhile_idem _ _
  have h2 : r.reverse <+: l.dropWhile wsN := by
    rw [← List.reverse_suffix, List.reverse_reverse, ← hr]
    exact List.dropWhile_suffix _
  have h3 : r.reverse.dropWhile wsN = r.reverse := dropWhile_pre _ _ _ h2 (dropWhile_idem _ _)
  have h4 : trimN l = r.reverse := by unfold trimN; rw [hr]
  rw [h4]
  unfold trimN
  rw [h3, List.reverse_reverse, h1]
theorem trim_len (l : List Int) : (trimN l).length ≤ l.length := by
  unfold trimN
  rw [List.length_reverse]
  refine Nat.le_trans (List.dropWhile_suffix _).length_le ?_
  rw [List.length_reverse]
  exact (List.dropWhile_suffix _).length_le
theorem low_len (l : List Int) : (lowL l).length = l.length := by unfold lowL; rw [List.length_map]
theorem isBs_low {l : List Int} (h : isBs l) : isBs (lowL l) := by
  intro x hx
  unfold lowL at hx
  obtain ⟨c, hc, rfl⟩ := List.mem_map.1 hx
  have := h c hc
  unfold lowB
  split <;> omega
theorem isBs_trim {l : List Int} (h : isBs l) : isBs (trimN l) := by
  intro x hx
  unfold trimN at hx
  rw [List.mem_reverse] at hx
  have h1 := (List.dropWhile_sublist _).subset hx
  rw [List.mem_reverse] at h1
  exact h x ((List.dropWhile_sublist _).subset h1)
theorem nums_lowS (s : ByteArray) : nums (lowS s) = lowL (nums s) := nums_strOfNums _ (isBs_low (nums_isBs s))
theorem nums_trimS (s : ByteArray) : nums (trimS s) = trimN (nums s) := nums_strOfNums _ (isBs_trim (nums_isBs s))
theorem trimS_trimS (s : ByteArray) : trimS (trimS s) = trimS s := by unfold trimS; rw [show nums (strOfNums (trimN (nums s))) = trimN (nums s) from nums_trimS s, trim_trim]
theorem lowS_lowS (s : ByteArray) : lowS (lowS s) = lowS s := by unfold lowS; rw [show nums (strOfNums (lowL (nums s))) = lowL (nums s) from nums_lowS s, low_low]
theorem trimS_lowS (s : ByteArray) : trimS (lowS s) = lowS (trimS s) := by
  unfold trimS lowS
  rw [show nums (strOfNums (lowL (nums s))) = lowL (nums s) from nums_lowS s, show nums (strOfNums (trimN (nums s))) = trimN (nums s) from nums_trimS s, trim_low]
theorem lowS_size (s : ByteArray) : (lowS s).size = s.size := by rw [← nums_length, nums_lowS, low_len, nums_length]
theorem trimS_size (s : ByteArray) : (trimS s).size ≤ s.size := by rw [← nums_length, nums_trimS, ← nums_length]; exact trim_len _
/-- the place behind the white space in front. -/
def frmS (s : ByteArray) : Nat := ((nums s).takeWhile wsN).length
/-- the length of what is left of a text whose white space behind is cut off. -/
def endW (l : List Int) : Nat := (l.reverse.dropWhile wsN).length
theorem endW_nil : endW [] = 0 := rfl
theorem endW_snoc (l : List Int) (c : Int) : endW (l ++ [c]) = if wsN c then endW l else l.length + 1 := by
  unfold endW
  rw [List.reverse_append]
  show (List.dropWhile wsN (c :: l.reverse)).length = _
  rw [List.dropWhile_cons]
  split
  · rfl
  · simp
theorem endW_le (l : List Int) : endW l ≤ l.length := by
  unfold endW
  have := (List.dropWhile_suffix wsN (l := l.reverse)).length_le
  rw [List.length_reverse] at this
  exact this
theorem take_suffix_rev : ∀ (l r : List Int), r <:+ l.reverse → l.take r.length = r.reverse := by
  intro l r h
  rw [← List.reverse_prefix, List.reverse_reverse] at h
  obtain ⟨t, ht⟩ := h
  rw [← ht]
  rw [show r.length = r.reverse.length by rw [List.length_reverse]]
  exact List.take_left
/-- the text between the two places. -/
theorem trimS_ext (s : ByteArray) : s.extract (frmS s) (frmS s + endW ((nums s).drop (frmS s))) = trimS s := by
  have h1 : (nums s).drop (frmS s) = (nums s).dropWhile wsN := by
    unfold frmS
    generalize nums s = l
    induction l with
    | nil => rfl
    | cons c t ih =>
      rw [List.takeWhile_cons, List.dropWhile_cons]
      split
      · rw [List.length_cons, List.drop_succ_cons]; exact ih
      · rfl
  have h2 : nums (s.extract (frmS s) (frmS s + endW ((nums s).drop (frmS s)))) = trimN (nums s) := by
    have e : nums (s.extract (frmS s) (frmS s + endW ((nums s).drop (frmS s)))) = ((nums s).drop (frmS s)).take (endW ((nums s).drop (frmS s))) := by
      unfold nums
      rw [ByteArray.data_extract, Array.toList_extract, List.map_take, List.map_drop, Nat.add_sub_cancel_left]
    rw [e, h1]
    unfold endW trimN
    exact take_suffix_rev _ _ (List.dropWhile_suffix _)
  rw [← strOfNums_nums (s.extract _ _), h2]
  rfl
end Go.Proofs.YthahfoliblgegaaGreatDoor
/- 
  Layer 5: the walks of All, Name; the document's All, Name.
 -/
namespace Go.Proofs.YthahfoliblgegaaGreatDoor
open Go.RowKit
theorem Reads.texts {B : Nat} {w : World} {v : Value} {ss : List ByteArray} (h : Reads B w v (ss.map Value.string)) :
    ∃ a cap, v = .slice a ss.length cap ∧ ∀ i (_ : i < ss.length), ∃ b off, a = some ⟨b, off, none⟩ ∧ b < B ∧ w.cell? ⟨b, off + i, none⟩ = some (.string ss[i]) := by
  obtain ⟨hl, a, cap, rfl, h⟩ := h
  rw [List.length_map] at hl
  refine ⟨a, cap, by rw [List.length_map], fun i hi => ?_⟩
  rcases h with h | ⟨b, off, rfl, hB, hc⟩
  · rw [List.map_eq_nil_iff] at h; subst h; simp at hi
  · exact ⟨b, off, rfl, hB, by rw [hc i (by rw [List.length_map]; exact hi), List.getElem_map]⟩
theorem labL_len (e : Int) : (labL e).length ≤ 15 := by
  unfold labL
  repeat' split
  all_goals decide
/-- Fields of a text of ASCII that is known. -/
theorem fields_lab (s : ByteArray) (L : List ByteArray) (w : World) (ht : TabAt w) (hs : decide (s.size < 100000) = true) (ha : (s.data.toList.all fun b => decide (b.toNat < 128)) = true) (hL : (Lib.fields s.data.toList).map (fun l => (⟨l.toArray⟩ : ByteArray)) = L) (hl : L.length ≤ 15) :
    Calls Tryz.prog 137 #[.string s] w fun e w' => ∃ v, e = .returned v ∧ Reads w'.heap.size w' v (L.map Value.string) ∧ Below w.heap.size w w' := by
  refine (Tryz.strings_Fields s w (by have := of_decide_eq_true hs; omega) (fun j b hb => by
    have h := List.all_eq_true.1 ha b (List.mem_of_getElem? hb)
    exact of_decide_eq_true h) ht).mono ?_
  rintro e w' ⟨rfl, rfl⟩
  have hlen : (Lib.fields s.data.toList).length = L.length := by rw [← hL, List.length_map]
  refine ⟨_, rfl, ?_, (Below.refl _ w).alloc (Nat.le_refl _) _⟩
  have hr := reads_alloc w ((Lib.fields s.data.toList).map fun l => Value.string ⟨l.toArray⟩).toArray 9 (Lib.fields s.data.toList).length (Lib.fields s.data.toList).length (L.map Value.string)
    (by rw [List.toList_toArray, ← hL, List.map_map]; rfl) (by rw [List.length_map, hlen]) (by rw [hlen]; unfold maxLen; omega)
  rw [World.size_alloc]
  exact hr
set_option maxRecDepth 10000 in
theorem label_All (enc : Int) (w : World) (ht : TabAt w) :
    Calls Tryz.prog 106 #[.int .i8 enc] w fun e w' => ∃ v, e = .returned v ∧ Reads w'.heap.size w' v ((labL enc).map Value.string) ∧ Below w.heap.size w w' := by
  by_cases h0 : enc = 0
  · subst h0
    go_enter Tryz.func106, Tryz.ntmps106
    go_wp2_with fail
    refine (fields_lab _ (labL 0) w ht (by kernel_rfl) (by kernel_rfl) (by kernel_rfl) (by decide)).mono ?_
    rintro e w' ⟨v, rfl, hr, hb⟩
    go_wp2
    go_ret
    exact ⟨_, rfl, hr, hb⟩
  by_cases h1 : enc = 1
  · subst h1
    go_enter Tryz.func106, Tryz.ntmps106
    go_wp2_with fail
    refine (fields_lab _ (labL 1) w ht (by kernel_rfl) (by kernel_rfl) (by kernel_rfl) (by decide)).mono ?_
    rintro e w' ⟨v, rfl, hr, hb⟩
    go_wp2
    go_ret
    exact ⟨_, rfl, hr, hb⟩
  by_cases h2 : enc = 2
  · subst h2
    go_enter Tryz.func106, Tryz.ntmps106
    go_wp2_with fail
    refine (fields_lab _ (labL 2) w ht (by kernel_rfl) (by kernel_rfl) (by kernel_rfl) (by decide)).mono ?_
    rintro e w' ⟨v, rfl, hr, hb⟩
    go_wp2
    go_ret
    exact ⟨_, rfl, hr, hb⟩
  by_cases h3 : enc = 3
  · subst h3
    go_enter Tryz.func106, Tryz.ntmps106
    go_wp2_with fail
    refine (fields_lab _ (labL 3) w ht (by kernel_rfl) (by kernel_rfl) (by kernel_rfl) (by decide)).mono ?_
    rintro e w' ⟨v, rfl, hr, hb⟩
    go_wp2
    go_ret
    exact ⟨_, rfl, hr, hb⟩
  by_cases h4 : enc = 4
  · subst h4
    go_enter Tryz.func106, Tryz.ntmps106
    go_wp2_with fail
    refine (fields_lab _ (labL 4) w ht (by kernel_rfl) (by kernel_rfl) (by kernel_rfl) (by decide)).mono ?_
    rintro e w' ⟨v, rfl, hr, hb⟩
    go_wp2
    go_ret
    exact ⟨_, rfl, hr, hb⟩
  by_cases h5 : enc = 5
  · subst h5
    go_enter Tryz.func106, Tryz.ntmps106
    go_wp2_with fail
    refine (fields_lab _ (labL 5) w ht (by kernel_rfl) (by kernel_rfl) (by kernel_rfl) (by decide)).mono ?_
    rintro e w' ⟨v, rfl, hr, hb⟩
    go_wp2
    go_ret
    exact ⟨_, rfl, hr, hb⟩
  have hL : labL enc = [] := by unfold labL; rw [if_neg h0, if_neg h1, if_neg h2, if_neg h3, if_neg h4, if_neg h5]
  have q0 : (enc == 0) = false := by simpa using h0
  have q1 : (enc == 1) = false := by simpa using h1
  have q2 : (enc == 2) = false := by simpa using h2
  have q3 : (enc == 3) = false := by simpa using h3
  have q4 : (enc == 4) = false := by simpa using h4
  have q5 : (enc == 5) = false := by simpa using h5
  rw [hL]
  clear h0 h1 h2 h3 h4 h5 hL
  go_enter Tryz.func106, Tryz.ntmps106
  go_wp2_with fail
  refine (fields_lab _ [] w ht (by kernel_rfl) (by kernel_rfl) (by kernel_rfl) (by decide)).mono ?_
  rintro e w' ⟨v, rfl, hr, hb⟩
  go_wp2
  go_ret
  exact ⟨_, rfl, hr, hb⟩
set_option maxRecDepth 10000 in
theorem ref05_All (enc : Int) (w : World) :
    Calls Tryz.prog 66 #[.int .i8 enc] w fun e w' => ∃ v, e = .returned v ∧ Reads w'.heap.size w' v ((labL enc).map Value.string) ∧ Below w.heap.size w w' := by
  by_cases h0 : enc = 0
  · subst h0
    go_enter Tryz.func66, Tryz.ntmps66
    go_wp2_with fail
    go_ret
    refine ⟨_, rfl, ?_, (Below.refl _ w).alloc (Nat.le_refl _) _⟩
    have hr := reads_alloc w ((labL 0).map Value.string).toArray 9 5 5 ((labL 0).map Value.string) (by rw [List.toList_toArray]) rfl (by unfold maxLen; omega)
    rw [World.size_alloc]
    exact hr
  by_cases h1 : enc = 1
  · subst h1
    go_enter Tryz.func66, Tryz.ntmps66
    go_wp2_with fail
    go_ret
    refine ⟨_, rfl, ?_, (Below.refl _ w).alloc (Nat.le_refl _) _⟩
    have hr := reads_alloc w ((labL 1).map Value.string).toArray 9 7 7 ((labL 1).map Value.string) (by rw [List.toList_toArray]) rfl (by unfold maxLen; omega)
    rw [World.size_alloc]
    exact hr
  by_cases h2 : enc = 2
  · subst h2
    go_enter Tryz.func66, Tryz.ntmps66
    go_wp2_with fail
    go_ret
    refine ⟨_, rfl, ?_, (Below.refl _ w).alloc (Nat.le_refl _) _⟩
    have hr := reads_alloc w ((labL 2).map Value.string).toArray 9 2 2 ((labL 2).map Value.string) (by rw [List.toList_toArray]) rfl (by unfold maxLen; omega)
    rw [World.size_alloc]
    exact hr
  by_cases h3 : enc = 3
  · subst h3
    go_enter Tryz.func66, Tryz.ntmps66
    go_wp2_with fail
    go_ret
    refine ⟨_, rfl, ?_, (Below.refl _ w).alloc (Nat.le_refl _) _⟩
    have hr := reads_alloc w ((labL 3).map Value.string).toArray 9 15 15 ((labL 3).map Value.string) (by rw [List.toList_toArray]) rfl (by unfold maxLen; omega)
    rw [World.size_alloc]
    exact hr
  by_cases h4 : enc = 4
  · subst h4
    go_enter Tryz.func66, Tryz.ntmps66
    go_wp2_with fail
    go_ret
    refine ⟨_, rfl, ?_, (Below.refl _ w).alloc (Nat.le_refl _) _⟩
    have hr := reads_alloc w ((labL 4).map Value.string).toArray 9 6 6 ((labL 4).map Value.string) (by rw [List.toList_toArray]) rfl (by unfold maxLen; omega)
    rw [World.size_alloc]
    exact hr
  by_cases h5 : enc = 5
  · subst h5
    go_enter Tryz.func66, Tryz.ntmps66
    go_wp2_with fail
    go_ret
    refine ⟨_, rfl, ?_, (Below.refl _ w).alloc (Nat.le_refl _) _⟩
    have hr := reads_alloc w ((labL 5).map Value.string).toArray 9 6 6 ((labL 5).map Value.string) (by rw [List.toList_toArray]) rfl (by unfold maxLen; omega)
    rw [World.size_alloc]
    exact hr
  have hL : labL enc = [] := by unfold labL; rw [if_neg h0, if_neg h1, if_neg h2, if_neg h3, if_neg h4, if_neg h5]
  have q0 : (enc == 0) = false := by simpa using h0
  have q1 : (enc == 1) = false := by simpa using h1
  have q2 : (enc == 2) = false := by simpa using h2
  have q3 : (enc == 3) = false := by simpa using h3
  have q4 : (enc == 4) = false := by simpa using h4
  have q5 : (enc == 5) = false := by simpa using h5
  rw [hL]
  clear h0 h1 h2 h3 h4 h5 hL
  go_enter Tryz.func66, Tryz.ntmps66
  go_wp2_with fail
  go_ret
  exact ⟨_, rfl, ⟨by simp, none, 0, rfl, .inl rfl⟩, Below.refl _ _⟩
theorem namS_nil {enc : Int} (h : (labL enc).length = 0) : namS enc = ⟨#[]⟩ := by unfold namS; rw [List.eq_nil_of_length_eq_zero h]
theorem namS_at {enc : Int} (h : 0 < (labL enc).length) : namS enc = (labL enc)[0] := by
  have e : (labL enc)[0]? = some (namS enc) := by
    unfold namS
    revert h
    generalize labL enc = l
    intro h
    cases l with
    | nil => simp at h
    | cons l r => rfl
  rw [List.getElem?_eq_getElem h] at e
  exact (Option.some.inj e).symm
end Go.Proofs.YthahfoliblgegaaGreatDoor
/- 
  A text's bytes: a row that a conversion made, read, written on, made a text again.
 -/
namespace Go.Proofs.YthahfoliblgegaaGreatDoor
open Go.RowKit
/-- the block p holds a row whose first bytes are xs, and none of the row is frozen. -/
def LowRow (w : World) (p : Nat) (xs : List Int) : Prop := ∃ (C : Array Value) (e : TypeId) (m : Nat), w.heap[p]? = some (.cells C e (C.size, m)) ∧ C.toList.take xs.length = xs.map (Value.int .u8)
theorem LowRow.cellAt {w : World} {p : Nat} {xs : List Int} (h : LowRow w p xs) (j : Nat) (hj : j < xs.length) : w.cell? ⟨p, j, none⟩ = some (.int .u8 xs[j]) := by
  obtain ⟨C, e, m, hb, hC⟩ := h
  have h1 : (C.toList.take xs.length)[j]? = some (.int .u8 xs[j]) := by
    rw [hC, List.getElem?_map, List.getElem?_eq_getElem hj]
    rfl
  rw [List.getElem?_take_of_lt hj] at h1
  simpa [World.cell?, hb] using h1
theorem LowRow.frozenAt {w : World} {p : Nat} {xs : List Int} (h : LowRow w p xs) (j : Nat) (hj : j < xs.length) : w.frozen? ⟨p, j, none⟩ = false := by
  obtain ⟨C, e, m, hb, hC⟩ := h
  have h1 : xs.length ≤ C.size := by
    have := congrArg List.length hC
    simp only [List.length_take, Array.length_toList, List.length_map] at this
    omega
  have h2 : ¬ C.size ≤ j := by omega
  simp [World.frozen?, hb, h2]
theorem LowRow.stored {w : World} {p : Nat} {xs : List Int} (h : LowRow w p xs) (j : Nat) (x : Int) : LowRow (w.setCell ⟨p, j, none⟩ (.int .u8 x)) p (xs.set j x) := by
  obtain ⟨C, e, m, hb, hC⟩ := h
  refine ⟨C.setIfInBounds j (.int .u8 x), e, m, ?_, ?_⟩
  · rw [Lib.heap_setCell_same hb, Array.size_setIfInBounds]
  · rw [Array.toList_setIfInBounds, List.length_set, List.map_set, ← hC, List.take_set]
theorem LowRow.drewN {w : World} {p : Nat} {xs : List Int} (h : LowRow w p xs) (n : Nat) : LowRow (w.drewN n) p xs := h
theorem LowRow.made (w : World) (e : TypeId) (s : ByteArray) : LowRow (Lib.bytesWorld w e s) w.heap.size (nums s) := by
  refine ⟨_, e, _, Lib.bytesWorld_at_new w e s, ?_⟩
  have h : (nums s).map (Value.int .u8) = (s.data.map fun b => Value.int .u8 b.toNat).toList := by
    unfold nums
    rw [List.map_map, Array.toList_map]
    rfl
  have h2 : (s.data.map fun b => Value.int .u8 b.toNat).toList.length = (nums s).length := by rw [← h, List.length_map]
  rw [h, Lib.bytesCells, Array.toList_append, ← h2]
  exact List.take_left
theorem bytes_below (w : World) (e : TypeId) (s : ByteArray) : Below w.heap.size w (Lib.bytesWorld w e s) :=
  ⟨by simp [Lib.bytesWorld, World.freeze, World.alloc, World.drew, -World.alloc_eq, -World.drew_eq], by simp [Lib.bytesWorld, World.freeze, World.alloc, World.drew, -World.alloc_eq, -World.drew_eq],
    by simp [Lib.bytesWorld, World.freeze, World.alloc, World.drew, -World.alloc_eq, -World.drew_eq], by rw [Lib.bytesWorld_size]; omega, fun k hk => Lib.bytesWorld_at_old w e s k hk⟩
theorem LowRow.conv {w : World} {p : Nat} {xs : List Int} (h : LowRow w p xs) (n cap : Nat) (hn : xs.length = n) :
    (convert 104 9 (.slice (some ⟨p, 0, none⟩) n cap)).run Tryz.prog w = .ok (.string (strOfNums xs)) w := by
  refine run_convert_bytes_arg w 104 5 Tryz.underlying104 Tryz.underlying5 p 0 n cap xs hn ?_ 9 Tryz.underlying9
  intro i hi
  rw [Nat.zero_add, h.cellAt i (by omega)]
  simp [List.getD, List.getElem?_eq_getElem (show i < xs.length by omega)]
theorem nums_at (s : ByteArray) (k : Nat) (h : k < s.size) : (nums s)[k]'(by rw [nums_length]; exact h) = (s[k].toNat : Int) := by simp [nums]; rfl
theorem byte256 (s : ByteArray) (k : Nat) (h : k < s.size) : s[k].toNat < 256 := s[k].toBitVec.isLt
end Go.Proofs.YthahfoliblgegaaGreatDoor
/- 
  Layer 5: the walks of Trim; the document's white, Trim.
 -/
namespace Go.Proofs.YthahfoliblgegaaGreatDoor
open Go.RowKit
theorem indexB_ws (c : Nat) (h : c < 256) : decide (0 ≤ Lib.indexByte (⟨#[9, 10, 12, 13, 32]⟩ : ByteArray).data.toList (c : Int).toNat.toUInt8) = wsN (c : Int) := by
  have h := List.all_eq_true.1 (show ((List.range 256).all fun c => decide (0 ≤ Lib.indexByte (⟨#[9, 10, 12, 13, 32]⟩ : ByteArray).data.toList (c : Int).toNat.toUInt8) == wsN (c : Int)) = true by decide +kernel) c (List.mem_range.2 h)
  exact beq_iff_eq.1 h
theorem frmS_step (s : ByteArray) (k : Nat) (h : k < s.size) (hk : k + (((nums s).drop k).takeWhile wsN).length = frmS s) : (wsN (s[k].toNat : Int) = true → (k + 1) + (((nums s).drop (k + 1)).takeWhile wsN).length = frmS s) ∧ (wsN (s[k].toNat : Int) = false → k = frmS s) := by
  rw [nums_drop s k h, List.takeWhile_cons] at hk
  constructor
  · intro hw
    rw [if_pos hw, List.length_cons] at hk
    omega
  · intro hw
    rw [if_neg (by rw [hw]; decide)] at hk
    simpa using hk
theorem frmS_end (s : ByteArray) (k : Nat) (h : s.size ≤ k) (hk : k + (((nums s).drop k).takeWhile wsN).length = frmS s) : k = frmS s := by
  rw [nums_drop_end s k h] at hk
  simpa using hk
theorem frmS_le (s : ByteArray) : frmS s ≤ s.size := by
  unfold frmS
  have := (List.takeWhile_prefix wsN (l := nums s)).length_le
  rwa [nums_length] at this
theorem endS_step (s : ByteArray) (F j : Nat) (h : F < j) (hj : j ≤ s.size) (E : Nat) (hE : endW (((nums s).drop F).take (j - F)) = E) :
    (wsN ((s[j - 1]'(by omega)).toNat : Int) = true → endW (((nums s).drop F).take (j - 1 - F)) = E) ∧ (wsN ((s[j - 1]'(by omega)).toNat : Int) = false → j = F + E) := by
  have e : ((nums s).drop F).take (j - F) = ((nums s).drop F).take (j - 1 - F) ++ [((s[j - 1]'(by omega)).toNat : Int)] := by
    rw [show j - F = (j - 1 - F) + 1 by omega, List.take_add_one, List.getElem?_drop, show F + (j - 1 - F) = j - 1 by omega, List.getElem?_eq_getElem (by rw [nums_length]; omega), nums_at s (j - 1) (by omega)]
    rfl
  rw [e, endW_snoc] at hE
  constructor
  · intro hw
    rw [if_pos hw] at hE
    exact hE
  · intro hw
    rw [if_neg (by rw [hw]; decide), List.length_take, List.length_drop, nums_length] at hE
    omega
theorem endS_start (s : ByteArray) (F : Nat) : endW (((nums s).drop F).take (s.size - F)) = endW ((nums s).drop F) := by rw [List.take_of_length_le (by rw [List.length_drop, nums_length]; omega)]
theorem ref05_white (c : Int) (w : World) : Calls Tryz.prog 109 #[.int .u8 c] w fun e w' => e = .returned (.bool (wsN c)) ∧ w = w' := by
  have HE := Lib.hid (show wsN c = (c == 9 || (c == 10 || (c == 12 || (c == 13 || c == 32)))) by
    unfold wsN
    cases c == 32 <;> cases c == 9 <;> cases c == 10 <;> cases c == 13 <;> cases c == 12 <;> rfl)
  cases q1 : c == 9 with
  | true =>
    go_enter Tryz.func109, Tryz.ntmps109
    go_wp2
    go_ret
    exact ⟨by rw [HE.out, q1]; rfl, rfl⟩
  | false =>
    cases q2 : c == 10 with
    | true =>
      go_enter Tryz.func109, Tryz.ntmps109
      go_wp2
      go_ret
      exact ⟨by rw [HE.out, q1, q2]; rfl, rfl⟩
    | false =>
      cases q3 : c == 12 with
      | true =>
        go_enter Tryz.func109, Tryz.ntmps109
        go_wp2
        go_ret
        exact ⟨by rw [HE.out, q1, q2, q3]; rfl, rfl⟩
      | false =>
        cases q4 : c == 13 with
        | true =>
          go_enter Tryz.func109, Tryz.ntmps109
          go_wp2
          go_ret
          exact ⟨by rw [HE.out, q1, q2, q3, q4]; rfl, rfl⟩
        | false =>
          go_enter Tryz.func109, Tryz.ntmps109
          go_wp2
          go_ret
          exact ⟨by rw [HE.out, q1, q2, q3, q4]; rfl, rfl⟩
set_option maxHeartbeats 1000000 in
theorem ref05_Trim (s : ByteArray) (w : World) (hs : s.size ≤ 1000000) : Calls Tryz.prog 65 #[.string s] w fun e w' => e = .returned (.string (trimS s)) ∧ w = w' := by
  obtain ⟨F, hF⟩ : ∃ F, frmS s = F := ⟨_, rfl⟩
  obtain ⟨E, hE⟩ : ∃ F, endW ((nums s).drop (frmS s)) = F := ⟨_, rfl⟩
  have hX := Lib.hid (trimS_ext s)
  rw [hE, hF] at hX
  rw [hF] at hE
  have lF : F ≤ s.size := by rw [← hF]; exact frmS_le s
  have HF := Lib.hid hF
  have HE := Lib.hid hE
  clear hF hE
  go_enter Tryz.func65, Tryz.ntmps65
  go_upto_block 0 with fail
  go_cut [3] (fun x wx => x = .int .i64 F ∧ w = wx)
  case first =>
    go_wp2_with fail
    go_loop [3] (fun i => ∃ k : Nat, i = .int .i64 k ∧ k ≤ s.size ∧ Hid (k + (((nums s).drop k).takeWhile wsN).length = frmS s)) (fun i => s.size - (intOf i).toNat)
    case atStart => exact ⟨0, rfl, by omega, Lib.hid (by rw [List.drop_zero, Nat.zero_add]; rfl)⟩
    case round =>
      obtain ⟨k, rfl, hk, HK⟩ := hrel
      by_cases hlt : k < s.size
      · obtain ⟨c, hc⟩ : ∃ c : Int, (s[k].toNat : Int) = c := ⟨_, rfl⟩
        have hix := index_str s k hlt c k hc rfl
        have hst := frmS_step s k hlt HK.out
        rw [hc] at hst
        have HW := Lib.hid (fun u => ref05_white c u)
        cases hw : wsN c with
        | true =>
          have HK2 := Lib.hid (hst.1 hw)
          rw [hw] at HW
          clear hc hst hw
          go_wp2_with fail
          refine (HW.out _).mono ?_
          rintro e w' ⟨rfl, rfl⟩
          go_wp2_with fail
          exact ⟨⟨k + 1, by go_num, by omega, HK2⟩, by simp [intOf]; omega⟩
        | false =>
          have HK2 := Lib.hid (hst.2 hw)
          rw [hw] at HW
          clear hc hst hw
          go_wp2_with fail
          refine (HW.out _).mono ?_
          rintro e w' ⟨rfl, rfl⟩
          go_wp2_with fail
          go_meet
          exact ⟨by rw [HK2.out, HF.out], rfl⟩
      · have HK2 := Lib.hid (frmS_end s k (by omega) HK.out)
        go_wp2_with fail
        go_meet
        exact ⟨by rw [HK2.out, HF.out], rfl⟩
  case rest =>
    obtain ⟨rfl, rfl⟩ := hcut
    go_wp2_with fail
    go_loop [4] (fun i => ∃ j : Nat, i = .int .i64 j ∧ F ≤ j ∧ j ≤ s.size ∧ Hid (endW (((nums s).drop F).take (j - F)) = E)) (fun i => (intOf i).toNat)
    case atStart => exact ⟨s.size, rfl, lF, Nat.le_refl _, Lib.hid (by rw [endS_start s F, HE.out])⟩
    case round =>
      obtain ⟨j, rfl, hFj, hj, HJ⟩ := hrel
      have hi1 : (F : Int) ≤ (j : Int) := by omega
      have hi2 : (j : Int) ≤ (s.size : Int) := by omega
      by_cases hlt : F < j
      · have hst := endS_step s F j hlt hj E HJ.out
        obtain ⟨c, hc⟩ : ∃ c : Int, ((s[j - 1]'(by omega)).toNat : Int) = c := ⟨_, rfl⟩
        have hix := index_str s (j - 1) (by omega) c ((j : Int) - 1) hc (by omega)
        rw [hc] at hst
        have hi3 : (F : Int) < (j : Int) := by omega
        have HW := Lib.hid (fun u => ref05_white c u)
        cases hw : wsN c with
        | true =>
          have HK2 := Lib.hid (hst.1 hw)
          rw [hw] at HW
          clear hc hst hw
          go_wp2_with fail
          refine (HW.out _).mono ?_
          rintro e w' ⟨rfl, rfl⟩
          go_wp2_with fail
          exact ⟨⟨j - 1, by congr 1; first | omega | (simp; omega), by omega, by omega, HK2⟩, by simp [intOf]; omega⟩
        | false =>
          have HK2 := Lib.hid (hst.2 hw)
          rw [hw] at HW
          clear hc hst hw
          go_wp2_with fail
          refine (HW.out _).mono ?_
          rintro e w' ⟨rfl, rfl⟩
          go_wp2_with fail
          go_ret
          exact ⟨ret_str (by rw [← hX.out, ← HK2.out]), rfl⟩
      · have HK2 := Lib.hid (show j = F + E by
          have := HJ.out
          rw [show j - F = 0 by omega, List.take_zero, endW_nil] at this
          omega)
        go_wp2_with fail
        go_ret
        exact ⟨ret_str (by rw [← hX.out, ← HK2.out]), rfl⟩
end Go.Proofs.YthahfoliblgegaaGreatDoor
/- 
  A struct variable of the call's own: what its block holds, behind stores and calls; results that lie in such a variable.
 -/
namespace Go.Proofs.YthahfoliblgegaaGreatDoor
open Go.RowKit
theorem bt {a b c : World} (h : Below a.heap.size a b) (k : Below b.heap.size b c) : Below a.heap.size a c := h.trans (k.mono h.size)
/-- the block g holds just the cells cs, none of them frozen. -/
def BlkAt (w : World) (g : Nat) (cs : Array Value) : Prop := ∃ t, w.heap[g]? = some (.cells cs t (0, 0))
theorem BlkAt.new (w : World) (cs : Array Value) (t : TypeId) : BlkAt (w.alloc (.cells cs t)) w.heap.size cs := ⟨t, heap_alloc_new w _⟩
theorem BlkAt.cell {w : World} {g : Nat} {cs : Array Value} (h : BlkAt w g cs) (i : Nat) {v : Value} (hi : cs[i]? = some v) : w.cell? ⟨g, i, none⟩ = some v := by
  obtain ⟨t, h⟩ := h
  rw [cell_of_row w g i cs t _ h, hi]
theorem BlkAt.free {w : World} {g : Nat} {cs : Array Value} (h : BlkAt w g cs) (i : Nat) : w.frozen? ⟨g, i, none⟩ = false := by
  obtain ⟨t, h⟩ := h
  simp [World.frozen?, h]
theorem BlkAt.set {w : World} {g : Nat} {cs : Array Value} (h : BlkAt w g cs) (i : Nat) (v : Value) : BlkAt (w.setCell ⟨g, i, none⟩ v) g (cs.setIfInBounds i v) := by
  obtain ⟨t, h⟩ := h
  exact ⟨t, heap_setCell_same w g i cs t v h⟩
theorem BlkAt.far {w : World} {g : Nat} {cs : Array Value} (h : BlkAt w g cs) {p : Nat} (hne : g ≠ p) (i : Nat) (v : Value) : BlkAt (w.setCell ⟨p, i, none⟩ v) g cs := by
  obtain ⟨t, h⟩ := h
  exact ⟨t, by rw [heap_setCell_other w ⟨p, i, none⟩ g v hne, h]⟩
theorem BlkAt.drewN {w : World} {g : Nat} {cs : Array Value} (h : BlkAt w g cs) (n : Nat) : BlkAt (w.drewN n) g cs := h
theorem BlkAt.drew {w : World} {g : Nat} {cs : Array Value} (h : BlkAt w g cs) : BlkAt w.drew g cs := h
theorem BlkAt.lt {w : World} {g : Nat} {cs : Array Value} (h : BlkAt w g cs) : g < w.heap.size := by
  obtain ⟨t, h⟩ := h
  exact (Array.getElem?_eq_some_iff.1 h).1
theorem BlkAt.below {w w' : World} {g : Nat} {cs : Array Value} (h : BlkAt w g cs) {B : Nat} (hb : Below B w w') (hg : g < B) : BlkAt w' g cs := by
  obtain ⟨t, h⟩ := h
  exact ⟨t, (hb.block g hg).trans h⟩
theorem BlkAt.alloc {w : World} {g : Nat} {cs : Array Value} (h : BlkAt w g cs) (o : Obj) : BlkAt (w.alloc o) g cs := h.below ((Below.refl _ w).alloc (Nat.le_refl _) o) h.lt
theorem BlkAt.grown {w w' : World} {g : Nat} {cs : Array Value} (h : BlkAt w g cs) {row : Option Nat} (hg : w.grownBy w' row) (hne : some g ≠ row) : BlkAt w' g cs := by
  have hl := h.lt
  obtain ⟨t, h⟩ := h
  exact ⟨t, (hg.block g hl hne).trans h⟩
theorem results_cell2 {P : Program} {fn : Func} {p u : Tmp} {ty : TypeId} (h : fn.results = #[.cell p ty, .tmp u]) (tmps : Array Value) (w : World) (g : Nat) (cs : Array Value) (d : TypeDesc)
    (hp : tmps.getD p undef = .pointer (some ⟨g, 0, none⟩)) (hg : BlkAt w g cs)
    (hu : P.underlying ty = some d) (hd : (match d with | .struct _ | .array _ _ => true | _ => false) = true) (hi : (P.info? ty).map (·.size) = some cs.size) :
    (results fn tmps).run P w = .ok (.tuple #[.agg cs, tmps.getD u undef]) w := by
  obtain ⟨t, hg⟩ := hg
  have hp' : tmps[p]?.getD undef = .pointer (some ⟨g, 0, none⟩) := by simpa using hp
  simp [results, h, hp', asAddr, run_loadVar_row w g t ty cs _ d hg hu hd hi]
theorem results_cell3 {P : Program} {fn : Func} {p u v : Tmp} {ty : TypeId} (h : fn.results = #[.cell p ty, .tmp u, .tmp v]) (tmps : Array Value) (w : World) (g : Nat) (cs : Array Value) (d : TypeDesc)
    (hp : tmps.getD p undef = .pointer (some ⟨g, 0, none⟩)) (hg : BlkAt w g cs)
    (hu : P.underlying ty = some d) (hd : (match d with | .struct _ | .array _ _ => true | _ => false) = true) (hi : (P.info? ty).map (·.size) = some cs.size) :
    (results fn tmps).run P w = .ok (.tuple #[.agg cs, tmps.getD u undef, tmps.getD v undef]) w := by
  obtain ⟨t, hg⟩ := hg
  have hp' : tmps[p]?.getD undef = .pointer (some ⟨g, 0, none⟩) := by simpa using hp
  simp [results, h, hp', asAddr, run_loadVar_row w g t ty cs _ d hg hu hd hi]
end Go.Proofs.YthahfoliblgegaaGreatDoor
/- 
  Layer 5: the walks of Trim, Lower; the document's Lower.
 -/
namespace Go.Proofs.YthahfoliblgegaaGreatDoor
open Go.RowKit
theorem trim1 (s : ByteArray) (k : Nat) (I : Int) (h : k < s.size) (hI : I = k) (c : Int) (hc : (s[k].toNat : Int) = c) (B : Nat) (w : World) (hb : w.cell? ⟨B, 0, none⟩ = some (.string s)) :
    Calls Tryz.prog 104 #[.int .i64 I, .pointer (some ⟨B, 0, none⟩)] w fun e w' => e = .returned (.bool (wsN c)) ∧ w = w' := by
  have hix := index_str s k h c I hc hI
  have hIB := Tryz.strings_IndexByte ⟨#[9, 10, 12, 13, 32]⟩ c
  have hw : decide (0 ≤ Lib.indexByte (⟨#[9, 10, 12, 13, 32]⟩ : ByteArray).data.toList c.toNat.toUInt8) = wsN c := by
    rw [← hc]
    exact indexB_ws _ (byte256 s k h)
  obtain ⟨n, hn⟩ : ∃ n, Lib.indexByte (⟨#[9, 10, 12, 13, 32]⟩ : ByteArray).data.toList c.toNat.toUInt8 = n := ⟨_, rfl⟩
  rw [hn] at hIB hw
  have HW := Lib.hid hw
  have h1 : (0 : Int) ≤ I := by omega
  have h2 : I < (s.size : Int) := by omega
  clear hw hn hc hI
  go_enter Tryz.func104, Tryz.ntmps104
  go_wp2_with fail
  refine (hIB _).mono ?_
  rintro e w' ⟨rfl, rfl⟩
  go_wp2
  go_ret
  exact ⟨ret_bool HW.out, rfl⟩
set_option maxHeartbeats 1000000 in
theorem label_Trim (s : ByteArray) (w : World) (hs : s.size ≤ 1000000) : Calls Tryz.prog 57 #[.string s] w fun e w' => e = .returned (.string (trimS s)) ∧ Below w.heap.size w w' := by
  obtain ⟨F, hF⟩ : ∃ F, frmS s = F := ⟨_, rfl⟩
  obtain ⟨E, hE⟩ : ∃ F, endW ((nums s).drop (frmS s)) = F := ⟨_, rfl⟩
  have hX := Lib.hid (trimS_ext s)
  rw [hE, hF] at hX
  rw [hF] at hE
  have lF : F ≤ s.size := by rw [← hF]; exact frmS_le s
  have HF := Lib.hid hF
  have HE := Lib.hid hE
  clear hF hE
  have hb1 := (Below.refl w.heap.size w).alloc (Nat.le_refl _) (.cells #[.string s] 9)
  have bk1 := BlkAt.new w #[.string s] 9
  obtain ⟨w1, hw1⟩ : ∃ x, w.alloc (.cells #[.string s] 9) = x := ⟨_, rfl⟩
  obtain ⟨B, hB⟩ : ∃ x, w.heap.size = x := ⟨_, rfl⟩
  rw [hw1] at hb1 bk1
  rw [hB] at bk1
  have d0 := bk1.cell 0 rfl
  go_enter Tryz.func57, Tryz.ntmps57
  go_wp2_with fail
  go_quiet (fail)
  have hb2 := below_dn hb1 nq
  have bk2 := bk1.drewN nq
  have dc := bk2.cell 0 rfl
  generalize w1.drewN nq = W at hb2 bk2 dc ⊢
  clear bk1 d0 hb1
  go_upto_block 0 with fail
  go_cut [4] (fun x wx => x = .int .i64 F ∧ W = wx)
  case first =>
    go_wp2_with fail
    go_loop [4] (fun i => ∃ k : Nat, i = .int .i64 k ∧ k ≤ s.size ∧ Hid (k + (((nums s).drop k).takeWhile wsN).length = frmS s)) (fun i => s.size - (intOf i).toNat)
    case atStart => exact ⟨0, rfl, by omega, Lib.hid (by rw [List.drop_zero, Nat.zero_add]; rfl)⟩
    case round =>
      obtain ⟨k, rfl, hk, HK⟩ := hrel
      by_cases hlt : k < s.size
      · obtain ⟨c, hc⟩ : ∃ c : Int, (s[k].toNat : Int) = c := ⟨_, rfl⟩
        have hix := index_str s k hlt c k hc rfl
        have hst := frmS_step s k hlt HK.out
        rw [hc] at hst
        have HW := Lib.hid (fun (u : World) (hu : u.cell? ⟨B, 0, none⟩ = some (.string s)) => trim1 s k (k : Int) (by omega) (by omega) c hc B u hu)
        cases hw : wsN c with
        | true =>
          have HK2 := Lib.hid (hst.1 hw)
          rw [hw] at HW
          clear hc hst hw
          go_wp2_with fail
          refine (HW.out _ dc).mono ?_
          rintro e w' ⟨rfl, rfl⟩
          go_wp2_with fail
          exact ⟨⟨k + 1, by go_num, by omega, HK2⟩, by simp [intOf]; omega⟩
        | false =>
          have HK2 := Lib.hid (hst.2 hw)
          rw [hw] at HW
          clear hc hst hw
          go_wp2_with fail
          refine (HW.out _ dc).mono ?_
          rintro e w' ⟨rfl, rfl⟩
          go_wp2_with fail
          go_meet
          exact ⟨by rw [HK2.out, HF.out], rfl⟩
      · have HK2 := Lib.hid (frmS_end s k (by omega) HK.out)
        go_wp2_with fail
        go_meet
        exact ⟨by rw [HK2.out, HF.out], rfl⟩
  case rest =>
    obtain ⟨rfl, rfl⟩ := hcut
    go_wp2_with fail
    go_loop [5] (fun i => ∃ j : Nat, i = .int .i64 j ∧ F ≤ j ∧ j ≤ s.size ∧ Hid (endW (((nums s).drop F).take (j - F)) = E)) (fun i => (intOf i).toNat)
    case atStart => exact ⟨s.size, rfl, lF, Nat.le_refl _, Lib.hid (by rw [endS_start s F, HE.out])⟩
    case round =>
      obtain ⟨j, rfl, hFj, hj, HJ⟩ := hrel
      have hi1 : (F : Int) ≤ (j : Int) := by omega
      have hi2 : (j : Int) ≤ (s.size : Int) := by omega
      by_cases hlt : F < j
      · have hst := endS_step s F j hlt hj E HJ.out
        obtain ⟨c, hc⟩ : ∃ c : Int, ((s[j - 1]'(by omega)).toNat : Int) = c := ⟨_, rfl⟩
        have hix := index_str s (j - 1) (by omega) c ((j : Int) - 1) hc (by omega)
        rw [hc] at hst
        have hi3 : (F : Int) < (j : Int) := by omega
        have HW := Lib.hid (fun (u : World) (hu : u.cell? ⟨B, 0, none⟩ = some (.string s)) => trim1 s (j - 1) ((j : Int) - 1) (by omega) (by omega) c hc B u hu)
        cases hw : wsN c with
        | true =>
          have HK2 := Lib.hid (hst.1 hw)
          rw [hw] at HW
          clear hc hst hw
          go_wp2_with fail
          refine (HW.out _ dc).mono ?_
          rintro e w' ⟨rfl, rfl⟩
          go_wp2_with fail
          exact ⟨⟨j - 1, by congr 1; first | omega | (simp; omega), by omega, by omega, HK2⟩, by simp [intOf]; omega⟩
        | false =>
          have HK2 := Lib.hid (hst.2 hw)
          rw [hw] at HW
          clear hc hst hw
          go_wp2_with fail
          refine (HW.out _ dc).mono ?_
          rintro e w' ⟨rfl, rfl⟩
          go_wp2_with fail
          go_ret
          exact ⟨ret_str (by rw [← hX.out, ← HK2.out]), by first | exact hb2 | exact hB ▸ hb2⟩
      · have HK2 := Lib.hid (show j = F + E by
          have := HJ.out
          rw [show j - F = 0 by omega, List.take_zero, endW_nil] at this
          omega)
        go_wp2_with fail
        go_ret
        exact ⟨ret_str (by rw [← hX.out, ← HK2.out]), by first | exact hb2 | exact hB ▸ hb2⟩
end Go.Proofs.YthahfoliblgegaaGreatDoor
/- 
  Layer 5: the walks of Lower; the document's Lower.
 -/
namespace Go.Proofs.YthahfoliblgegaaGreatDoor
open Go.RowKit
def upB (c : Int) : Bool := decide (65 ≤ c) && decide (c ≤ 90)
theorem low_none (l : List Int) (h : l.any upB = false) : lowL l = l := by
  unfold lowL
  induction l with
  | nil => rfl
  | cons c t ih =>
    rw [List.any_cons, Bool.or_eq_false_iff] at h
    have hc : ¬ (65 ≤ c ∧ c ≤ 90) := by
      intro hh
      have := h.1
      unfold upB at this
      rw [decide_eq_true hh.1, decide_eq_true hh.2] at this
      cases this
    rw [List.map_cons, ih h.2, show lowB c = c from if_neg hc]
theorem lower1 (c : Int) (w : World) : Calls Tryz.prog 103 #[.int .u8 c] w fun e w' => e = .returned (.bool (upB c)) ∧ w = w' := by
  by_cases h1 : 65 ≤ c
  · have p1 := decide_eq_true h1
    have HE := Lib.hid (show upB c = decide (c ≤ 90) by unfold upB; rw [p1]; rfl)
    go_enter Tryz.func103, Tryz.ntmps103
    go_wp2
    go_ret
    exact ⟨ret_bool HE.out.symm, rfl⟩
  · have p1 := decide_eq_false h1
    have HE := Lib.hid (show upB c = false by unfold upB; rw [p1]; rfl)
    go_enter Tryz.func103, Tryz.ntmps103
    go_wp2
    go_ret
    exact ⟨ret_bool HE.out.symm, rfl⟩
theorem lower_index (p n cap : Nat) (xs : List Int) (hn : xs.length = n) (w : World) (hr : LowRow w p xs) (hl : n ≤ 1000000) :
    Calls Tryz.prog 135 #[.slice (some ⟨p, 0, none⟩) n cap, .func (.func 103) #[] #[]] w fun e w' => (∃ i : Int, e = .returned (.int .i64 i) ∧ decide (0 ≤ i) = xs.any upB) ∧ w = w' := by
  go_enter Tryz.func135, Tryz.ntmps135
  go_wp2_with fail
  go_loop [8] (fun i => ∃ k : Nat, i = .int .i64 k ∧ k ≤ n ∧ Hid (xs.any upB = (xs.drop k).any upB)) (fun i => n - (intOf i).toNat)
  case atStart => exact ⟨0, rfl, by omega, Lib.hid (by rw [List.drop_zero])⟩
  case round =>
    obtain ⟨k, rfl, hk, HQ⟩ := hrel
    by_cases hlt : k < n
    · have hca := hr.cellAt k (by omega)
      obtain ⟨c, hc⟩ : ∃ c, xs[k]'(by omega) = c := ⟨_, rfl⟩
      have hdr : xs.drop k = c :: xs.drop (k + 1) := by rw [← hc, List.drop_eq_getElem_cons (by omega)]
      rw [hc] at hca
      have H1 := Lib.hid (fun u => lower1 c u)
      cases hu : upB c with
      | true =>
        have HE := Lib.hid (show decide (0 ≤ (k : Int)) = xs.any upB by rw [HQ.out, hdr, List.any_cons, hu]; simp)
        rw [hu] at H1
        clear hc hdr hu
        go_wp2_with fail
        refine (H1.out _).mono ?_
        rintro e w' ⟨rfl, rfl⟩
        go_wp2_with fail
        go_ret
        exact ⟨⟨_, rfl, HE.out⟩, rfl⟩
      | false =>
        have HE := Lib.hid (show xs.any upB = (xs.drop (k + 1)).any upB by rw [HQ.out, hdr, List.any_cons, hu]; simp)
        rw [hu] at H1
        clear hc hdr hu
        go_wp2_with fail
        refine (H1.out _).mono ?_
        rintro e w' ⟨rfl, rfl⟩
        go_wp2_with fail
        exact ⟨⟨k + 1, by go_num, by omega, HE⟩, by simp [intOf]; omega⟩
    · have HE := Lib.hid (show decide ((0 : Int) ≤ -1) = xs.any upB by rw [HQ.out, List.drop_eq_nil_of_le (by omega)]; rfl)
      go_wp2_with fail
      go_ret
      exact ⟨⟨_, rfl, HE.out⟩, rfl⟩
theorem lower_contains (p n cap : Nat) (xs : List Int) (hn : xs.length = n) (w : World) (hr : LowRow w p xs) (hl : n ≤ 1000000) :
    Calls Tryz.prog 102 #[.slice (some ⟨p, 0, none⟩) n cap, .func (.func 103) #[] #[]] w fun e w' => e = .returned (.bool (xs.any upB)) ∧ w = w' := by
  have HI := Lib.hid (lower_index p n cap xs hn w hr hl)
  go_enter Tryz.func102, Tryz.ntmps102
  go_wp2_with fail
  refine HI.out.mono ?_
  rintro e w' ⟨⟨i, rfl, hi⟩, rfl⟩
  have HH := Lib.hid hi
  clear hi
  go_wp2
  go_ret
  exact ⟨ret_bool HH.out, rfl⟩
set_option maxRecDepth 100000 in
set_option maxHeartbeats 4000000 in
theorem label_Lower (s : ByteArray) (w : World) (hs : s.size ≤ 1000000) :
    Calls Tryz.prog 56 #[.string s] w fun e w' => e = .returned (.string (strOfNums (lowL (nums s)))) ∧ Below w.heap.size w w' := by
  have hcv := Lib.run_convert_string_bytes (P := Tryz.prog) w 9 104 5 s Tryz.underlying9 Tryz.underlying104 Tryz.underlying5
  obtain ⟨cap, hcap⟩ : ∃ cap, grownCap w s.size 0 5 = cap := ⟨_, rfl⟩
  have hrow := LowRow.made w 5 s
  have hbl := bytes_below w 5 s
  obtain ⟨w1, hw1⟩ : ∃ w1, Lib.bytesWorld w 5 s = w1 := ⟨_, rfl⟩
  rw [hcap, hw1] at hcv
  rw [hw1] at hrow hbl
  clear hw1 hcap
  obtain ⟨p, hp⟩ : ∃ p, w.heap.size = p := ⟨_, rfl⟩
  have HP := Lib.hid hp
  rw [hp] at hcv hrow hbl
  clear hp
  have HC := Lib.hid (lower_contains p s.size cap (nums s) (nums_length s) w1 hrow hs)
  cases hany : (nums s).any upB with
  | false =>
    have HL := Lib.hid (show strOfNums (lowL (nums s)) = s by rw [low_none _ hany, strOfNums_nums])
    rw [hany] at HC
    clear hany
    go_enter Tryz.func56, Tryz.ntmps56
    go_wp2_with fail
    refine HC.out.mono ?_
    rintro e w' ⟨rfl, rfl⟩
    go_wp2
    go_ret
    exact ⟨ret_str HL.out.symm, by rw [HP.out]; exact hbl⟩
  | true =>
    rw [hany] at HC
    clear hany
    go_enter Tryz.func56, Tryz.ntmps56
    go_wp2_with fail
    refine HC.out.mono ?_
    rintro e w' ⟨rfl, rfl⟩
    go_wp2
    go_loopw [14] (fun i wr => ∃ k : Nat, i = .int .i64 k ∧ k ≤ s.size ∧ LowRow wr p (fillL s k) ∧ Below p w1 wr) (fun i _ => s.size - (intOf i).toNat)
    case atStart => exact ⟨0, rfl, by omega, by rw [fillL_zero]; exact hrow, Below.refl _ _⟩
    case round =>
      obtain ⟨k, rfl, hk, hr, hb⟩ := hrel
      by_cases hlt : k < s.size
      · have hca := hr.cellAt k (by rw [fillL_len]; exact hlt)
        rw [fillL_at s k hlt] at hca
        have hfz := hr.frozenAt k (by rw [fillL_len]; exact hlt)
        have hsn := fillL_step s k hlt
        obtain ⟨c, hc⟩ : ∃ c, s[k].toNat = c := ⟨_, rfl⟩
        have hc256 : c < 256 := by rw [← hc]; exact byte256 s k hlt
        rw [hc] at hca hsn
        by_cases hu : 65 ≤ c ∧ c ≤ 90
        · obtain ⟨hu1, hu2⟩ := hu
          have hor := or32 c hu1 hu2
          have hst := hr.stored k ((c : Int) + 32)
          rw [show lowB (c : Int) = (c : Int) + 32 from if_pos (by omega)] at hsn
          rw [← hsn] at hst
          have HS := Lib.hid hst
          clear hsn hst hc
          have p1 := decide_eq_true (show (65 : Int) ≤ (c : Int) by omega)
          have p2 := decide_eq_true (show (c : Int) ≤ (90 : Int) by omega)
          go_wp2
          exact ⟨⟨k + 1, by go_num, by omega, HS.out, hb.setCell (Nat.le_refl _) _⟩, by simp [intOf]; omega⟩
        · rw [show lowB (c : Int) = (c : Int) from if_neg (by omega)] at hsn
          have hset : (fillL s k).set k (c : Int) = fillL s k := by
            have h4 := fillL_at s k hlt
            rw [hc] at h4
            rw [← h4, List.set_getElem_self]
          rw [hset] at hsn
          have hr' := hr
          rw [← hsn] at hr'
          have HS := Lib.hid hr'
          clear hsn hr' hset hc
          by_cases hv : 65 ≤ c
          · have p1 := decide_eq_true (show (65 : Int) ≤ (c : Int) by omega)
            have p2 := decide_eq_false (show ¬ (c : Int) ≤ (90 : Int) by omega)
            clear hu
            go_wp2
            exact ⟨⟨k + 1, by go_num, by omega, HS.out, hb⟩, by simp [intOf]; omega⟩
          · have p1 := decide_eq_false (show ¬ (65 : Int) ≤ (c : Int) by omega)
            clear hu
            go_wp2
            exact ⟨⟨k + 1, by go_num, by omega, HS.out, hb⟩, by simp [intOf]; omega⟩
      · obtain rfl : k = s.size := by omega
        rw [fillL_end] at hr
        have hcv2 := hr.conv s.size cap (by unfold lowL; rw [List.length_map, nums_length])
        go_wp2
        go_ret
        exact ⟨rfl, by rw [HP.out]; exact hbl.trans hb⟩
set_option maxHeartbeats 1000000 in
theorem ref05_Lower (s : ByteArray) (w : World) (hs : s.size ≤ 1000000) :
    Calls Tryz.prog 64 #[.string s] w fun e w' => e = .returned (.string (strOfNums (lowL (nums s)))) ∧ Below w.heap.size w w' := by
  go_enter Tryz.func64, Tryz.ntmps64
  go_wp2_with fail
  go_loopw [3, 4] (fun v i wr => ∃ k : Nat, i = .int .i64 k ∧ k ≤ s.size ∧ wr.ownsRow w.heap.size 5 1 v k ((lowL ((nums s).take k)).map (Value.int .u8)) ∧ Below w.heap.size w wr) (fun _ i _ => s.size - (intOf i).toNat)
  case atStart => exact ⟨0, rfl, by omega, World.ownsRow_nil _ _ _ _, Below.refl _ _⟩
  case round =>
    obtain ⟨k, rfl, hk, hrow, hb⟩ := hrel
    by_cases hlt : k < s.size
    · obtain ⟨c, hc⟩ : ∃ c : Int, (s[k].toNat : Int) = c := ⟨_, rfl⟩
      have hix := index_str s k hlt c k hc rfl
      have hc0 : 0 ≤ c := by omega
      have hc256 : c < 256 := by have := byte256 s k hlt; omega
      obtain ⟨x, hx⟩ : ∃ x, lowB c = x := ⟨_, rfl⟩
      obtain ⟨v', w', hrun, hro, hbo, _⟩ := app_u8 wr w.heap.size _ k _ hrow x (by omega) hb.size
      have HRO := Lib.hid (show w'.ownsRow w.heap.size 5 1 v' (k + 1) ((lowL ((nums s).take (k + 1))).map (Value.int .u8)) by
        rw [nums_take s k hlt, hc]
        unfold lowL at hro ⊢
        rw [List.map_append (f := lowB), List.map_cons, hx]
        exact hro)
      have HRUN := Lib.hid hrun
      clear hrun hro hc
      by_cases hu : 65 ≤ c ∧ c ≤ 90
      · obtain ⟨hu1, hu2⟩ := hu
        have p1 := decide_eq_true hu1
        have p2 := decide_eq_true hu2
        have hxx : x = c + 32 := by rw [← hx]; exact if_pos ⟨hu1, hu2⟩
        subst hxx
        have hwr : IntKind.u8.wrap (c + 32) = c + 32 := by rw [IntKind.wrap_u8]; omega
        clear hx
        go_wp2_with (at_builtin; refine wpList_append_run rfl _ _ _ _ rfl _ _ rfl rfl _ _ HRUN.out ?_)
        exact ⟨⟨k + 1, by go_num, by omega, HRO.out, hb.trans hbo⟩, by simp [intOf]; omega⟩
      · have hxx : x = c := by rw [← hx]; exact if_neg hu
        subst hxx
        clear hx
        by_cases hv : 65 ≤ x
        · have p1 := decide_eq_true hv
          have p2 := decide_eq_false (show ¬ x ≤ 90 by omega)
          clear hu
          go_wp2_with (at_builtin; refine wpList_append_run rfl _ _ _ _ rfl _ _ rfl rfl _ _ HRUN.out ?_)
          exact ⟨⟨k + 1, by go_num, by omega, HRO.out, hb.trans hbo⟩, by simp [intOf]; omega⟩
        · have p1 := decide_eq_false hv
          clear hu
          go_wp2_with (at_builtin; refine wpList_append_run rfl _ _ _ _ rfl _ _ rfl rfl _ _ HRUN.out ?_)
          exact ⟨⟨k + 1, by go_num, by omega, HRO.out, hb.trans hbo⟩, by simp [intOf]; omega⟩
    · obtain rfl : k = s.size := by omega
      rw [List.take_of_length_le (by rw [nums_length]; omega)] at hrow
      have hcv := conv_own _ _ _ _ _ hrow
      go_wp2
      go_ret
      exact ⟨rfl, hb⟩
end Go.Proofs.YthahfoliblgegaaGreatDoor
