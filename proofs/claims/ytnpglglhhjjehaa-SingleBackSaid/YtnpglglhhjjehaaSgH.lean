/-
  The walk of single.Encode.
-/
import Derived.Test.YtnpglglhhjjehaaSgG
namespace Go.Proofs.Ytnpglglhhjjehaa
open Go.RowKit
theorem IMap.len {W : World} {kk : IntKind} {b : Nat} {L : List (Int × Value)} (h : IMap W kk b L) {t kt et : TypeId} (ht : Try.prog.underlying t = some (.map kt et)) (ty : TypeId) :
    (Builtin.len_ #[t] ty #[.map (some b)]).run Try.prog W = .ok (.int .i64 L.length) W := by
  obtain ⟨es, clock, hb, hL⟩ := h
  have e1 : es.size = L.length := by
    have := congrArg List.length hL
    simpa using this
  rw [← e1]
  simp [Builtin.len_, run_underlying ht, MapKept.run_getObj_map hb, goInt, Result.andThen]
theorem ivb_length (L : List (Int × Int)) : (ivb L).length = L.length := List.length_map ..
theorem backL_len {e : Int} (he : isEnc e = true) : (backL e).length = 256 := by
  have hc := of_decide_eq_true he
  rcases hc with rfl | rfl | rfl <;> decide +kernel
theorem backL_no {e : Int} (he : isEnc e = false) : backL e = [] := by unfold backL; rw [tabL_no he]; rfl
theorem back_look {w : World} {b : Nat} {e : Int} (im : IMap w .i64 b (ivb (backL e))) (x : Int) :
    (Instr.lookup 46 (.map (some b)) (.int .i64 x) true).run Try.prog w = .ok (.tuple #[.int .u8 ((byteOf e x).getD 0), .bool (byteOf e x).isSome]) w := by
  have h := (im.lookup (t := 46) Try.underlying46 Try.underlying3 (.int .u8 0) (zU8 _) x).1
  rw [ivb_get, backL_get, mapD, Option.isSome_map] at h
  exact h
set_option maxRecDepth 100000 in
set_option maxHeartbeats 2000000 in
theorem single_Encode (e : Int) (s : ByteArray) (w : World) (hs : s.size ≤ 1000000) :
    Calls Try.prog 16 #[.int .i8 e, .string s] w fun r w' => r = .returned (.tuple #[.string (encT e s), .int .i64 (encAt e s), .int .i64 (encK e s)]) ∧ Below w.heap.size w w' := by
  cases he : isEnc e with
  | false =>
    have HE := Lib.hid (enc_no he s)
    have HB := Lib.hid (backL_no he)
    go_enter Try.func16, Try.ntmps16
    go_wp2_with fail
    refine (single_back _ _).mono ?_
    rw [HB.out]
    rintro e' w1 ⟨b, rfl, im, hb⟩
    have hlen := im.len (t := 46) Try.underlying46
    have hl0 : ((ivb []).length : Int) = 0 := rfl
    rw [hl0] at hlen
    go_wp2
    go_ret3
    exact ⟨by rw [HE.out.1, HE.out.2.1, HE.out.2.2]; rfl, hb⟩
  | true =>
    have HI := Lib.hid he
    have HBl := Lib.hid (backL_len he)
    clear he
    go_enter Try.func16, Try.ntmps16
    go_wp2_with fail
    refine (single_back _ _).mono ?_
    rintro e' w1 ⟨b, rfl, im, hb1⟩
    have hlen := im.len (t := 46) Try.underlying46
    rw [ivb_length, HBl.out] at hlen
    have HM := Lib.hid im
    clear im
    go_wp2_with fail
    go_loopw [8, 9] (fun v i wr => EncIn e s w1.heap.size w1 v i wr) (fun _ i _ => s.size - (intOf i).toNat)
    case atStart => exact ⟨0, [], rfl, by omega, by simp, rfl, by simp, World.ownsRow_nil _ _ _ _, Below.refl _ _⟩
    case round =>
      obtain ⟨k, done, rfl, hk, hdk, hba, hq, hown, hb⟩ := hrel
      have im := HM.out.below hb (Nat.le_refl _)
      by_cases hlt : k < s.size
      · have hpd := pieces_drop hlt
        have hpl := piece_drop_le hlt
        obtain ⟨p, hp⟩ : ∃ p, piece ((nums s).drop k) = p := ⟨_, rfl⟩
        by_cases hneg : p.1 < 0
        · have hbd : badAt e 0 (pieces (nums s)) = k := by
            rw [hba, hpd, hp, badAt, if_pos (by unfold badP; rw [decide_eq_true hneg]; rfl)]
          have HE := Lib.hid (enc_bad HI.out s k hbd)
          have hlk := back_look im 0
          clear hpd hq hba hbd im
          go_wp2_with fail
          refine (utf8_Next_no s k _ (by omega) hlt (by rw [hp]; exact hneg)).mono ?_
          rintro e' w' ⟨rfl, rfl⟩
          go_wp2
          go_ret3
          exact ⟨by rw [HE.out.1, HE.out.2.1, HE.out.2.2]; rfl, hb1.trans (hb.mono hb1.size)⟩
        · cases hz : (byteOf e p.1).isSome with
          | false =>
            have hbd : badAt e 0 (pieces (nums s)) = k := by
              rw [hba, hpd, hp, badAt, if_pos (by unfold badP; rw [hz]; simp)]
            have HE := Lib.hid (enc_bad HI.out s k hbd)
            have hlk := back_look im p.1
            rw [hz] at hlk
            have HP := Lib.hid hp
            clear hpd hq hba hbd hz hp im
            go_wp2_with fail
            refine (utf8_Next_ok s k _ (by omega) hlt p HP.out (by omega)).mono ?_
            rintro e' w' ⟨rfl, rfl⟩
            go_wp2
            go_ret3
            exact ⟨by rw [HE.out.1, HE.out.2.1, HE.out.2.2]; rfl, hb1.trans (hb.mono hb1.size)⟩
          | true =>
            obtain ⟨y, hy⟩ : ∃ y, (byteOf e p.1).getD 0 = y := ⟨_, rfl⟩
            have hlk := back_look im p.1
            rw [hz, hy] at hlk
            obtain ⟨v', w4, hr, ho4, hb4, _⟩ := app_u8 wr w1.heap.size u8 done.length (outB e done) hown y (by omega) hb.size
            have hrel1 : ∀ x, x = Value.int .i64 (k + p.2 : Nat) → EncIn e s w1.heap.size w1 v' x w4 := by
              intro x hx
              refine ⟨k + p.2, done ++ [p], hx, by rw [hp] at hpl; omega, by rw [hp] at hpl; simp; omega, ?_, by rw [hq, hpd, hp]; simp, ?_, hb.trans hb4⟩
              · rw [hba, hpd, hp, badAt, if_neg (by unfold badP; rw [hz, decide_eq_false hneg]; simp)]
              · rw [outB_snoc, hy, List.length_append]; exact ho4
            have hpl2 : 1 ≤ p.2 ∧ k + p.2 ≤ s.size := by rw [hp] at hpl; exact hpl
            have HP := Lib.hid hp
            have HL := Lib.hid hrel1
            have HR := Lib.hid (show _ = _ from hr)
            clear hpd hq hba hp hown hpl hrel1 hz hy im hr
            go_wp2_with (first
              | (at_builtin; refine wpList_append_run rfl _ _ _ _ rfl _ _ rfl rfl _ _ HR.out ?_)
              | (go_at_call 26; refine (utf8_Next_ok s k _ (by omega) hlt p HP.out (by omega)).mono ?_; rintro e' w' ⟨rfl, rfl⟩))
            exact ⟨HL.out _ (by go_num), by simp [intOf]; omega⟩
      · have hend := pieces_drop_end (s := s) (k := k) (by omega)
        rw [hend, List.append_nil] at hq
        have HE := Lib.hid (enc_good HI.out s (by rw [hba, hend]; rfl))
        have hconv := conv_own wr w1.heap.size u8 _ _ hown
        rw [← hq] at hconv
        have HC := Lib.hid hconv
        clear hend hq hba hconv hown im
        have hconv := HC.out
        go_wp2
        go_ret3
        exact ⟨by rw [HE.out.1, HE.out.2.1, HE.out.2.2]; rfl, hb1.trans (hb.mono hb1.size)⟩
end Go.Proofs.Ytnpglglhhjjehaa
