/-
  Parts MeF MeG MeH MeS Cr MeI of this seat's texts, in one file: contracts of functions that the law reaches, and the plain laws behind them. No condition.
-/
import Derived.Test.YthahfoliblgegaaGreatDoorG7
import Derived.Test.YthahfoliblgegaaGreatDoorG2
import Derived.Deep.RegionWith
import Derived.WalkMore
import Derived.Test.YthahfoliblgegaaGreatDoorG6
import Derived.Deep.Cut
/- 
  The walk of a quoted text in the reference.
 -/
namespace Go.Proofs.YthahfoliblgegaaGreatDoor
open Go.RowKit
set_option maxRecDepth 100000 in
set_option maxHeartbeats 8000000 in
theorem ref06_quoted (s : ByteArray) (k : Nat) (w : World) (hk0 : k < s.size) (hs : s.size ≤ 1000000) :
    Calls Tryz.prog 108 #[.string s, .int .i64 k] w fun e w' => e = .returned (.tuple #[.string (quoS (quoA [] ((nums s).drop (k + 1)))), .int .i64 (quoE s (quoA [] ((nums s).drop (k + 1)))), .bool (quoA [] ((nums s).drop (k + 1))).isSome]) ∧ Below w.heap.size w w' := by
  obtain ⟨R, hR⟩ : ∃ R, quoA [] ((nums s).drop (k + 1)) = R := ⟨_, rfl⟩
  rw [hR]
  have HR := Lib.hid hR
  clear hR
  go_enter Tryz.func108, Tryz.ntmps108
  go_wp2
  go_loopw [7, 8] (fun v i wr => ∃ (j : Nat) (acc : List Int), i = .int .i64 j ∧ k < j ∧ j ≤ s.size ∧ acc.length ≤ j ∧ quoA acc ((nums s).drop j) = R ∧ wr.ownsRow w.heap.size 5 1 v acc.length (acc.map (Value.int .u8)) ∧ Below w.heap.size w wr) (fun _ i _ => s.size - (intOf i).toNat)
  case atStart => exact ⟨k + 1, [], by go_num, by omega, by omega, by simp, HR.out, World.ownsRow_nil _ _ _ _, Below.refl _ _⟩
  case round =>
    obtain ⟨j, acc, rfl, hkj, hj, hacc, hq, hown, hb⟩ := hrel
    by_cases hlt : j < s.size
    · have hdr := nums_drop s j hlt
      obtain ⟨c, hc⟩ : ∃ c, s[j].toNat = c := ⟨_, rfl⟩
      have hc256 : c < 256 := by rw [← hc]; exact byte256 s j hlt
      have hidx := index_str s j hlt (c : Int) j (by rw [hc]) rfl
      rw [hdr, hc] at hq
      clear hdr hc
      by_cases e1 : (c : Int) = 34
      · have q1 : ((c : Int) == 34) = true := by simpa using e1
        rw [e1, quoA_quote] at hq
        have hcv := conv_own wr w.heap.size u7 acc.length acc hown
        have HQ := Lib.hid hq
        clear hq e1 hown
        go_wp2
        go_ret3
        rw [← HQ.out, quoE_drop s acc (j + 1) (by omega)]
        exact ⟨rfl, hb⟩
      · have q1 : ((c : Int) == 34) = false := by simpa using e1
        by_cases e2 : (c : Int) = 92
        · have q2 : ((c : Int) == 92) = true := by simpa using e2
          rw [e2] at hq
          clear e1 e2
          by_cases hl2 : j + 1 < s.size
          · have hdr2 := nums_drop s (j + 1) hl2
            obtain ⟨d, hd⟩ : ∃ d, s[j + 1].toNat = d := ⟨_, rfl⟩
            have hd256 : d < 256 := by rw [← hd]; exact byte256 s (j + 1) hl2
            have hidx2 := index_str s (j + 1) hl2 (d : Int) ((j : Int) + 1) (by rw [hd]) (by omega)
            rw [hdr2, hd] at hq
            clear hdr2 hd
            have hge := decide_eq_false (show ¬ (s.size : Int) ≤ (j : Int) + 1 by omega)
            cases he : isEsc (d : Int) with
            | false =>
              rw [quoA_esc_no he] at hq
              have HQ := Lib.hid hq
              have he' := of_decide_eq_false he
              have p1 : ((d : Int) != 9) = true := by simp; omega
              have HF : R = none := by rw [← HQ.out]
              subst HF
              by_cases hlo : (d : Int) < 32
              · have p2 := decide_eq_true hlo
                clear hq he he' hown
                go_wp2
                go_ret3
                exact ⟨rfl, hb⟩
              · have p2 := decide_eq_false hlo
                have p3 := decide_eq_true (show (126 : Int) < (d : Int) by omega)
                clear hq he he' hown
                go_wp2
                go_ret3
                exact ⟨rfl, hb⟩
            | true =>
              rw [quoA_esc he] at hq
              have HQ := Lib.hid hq
              have he' := of_decide_eq_true he
              obtain ⟨v', w3, hr, ho1, hb3, _⟩ := app_u8 wr w.heap.size u7 acc.length acc hown d (by omega) hb.size
              have HA := Lib.hid hr
              clear hq he hown hr
              by_cases h9 : (d : Int) = 9
              · have p1 : ((d : Int) != 9) = false := by simp [h9]
                clear he' h9
                go_wp2_with (at_builtin; refine wpList_append_run rfl _ _ _ _ rfl _ _ rfl rfl _ _ HA.out ?_)
                exact ⟨⟨j + 2, acc ++ [(d : Int)], by go_num, by omega, by omega, by simp; omega, HQ.out, by simpa using ho1, hb.trans hb3⟩, by simp [intOf]; omega⟩
              · have p1 : ((d : Int) != 9) = true := by simpa using h9
                have p2 := decide_eq_false (show ¬ (d : Int) < 32 by omega)
                have p3 := decide_eq_false (show ¬ (126 : Int) < (d : Int) by omega)
                clear he' h9
                go_wp2_with (at_builtin; refine wpList_append_run rfl _ _ _ _ rfl _ _ rfl rfl _ _ HA.out ?_)
                exact ⟨⟨j + 2, acc ++ [(d : Int)], by go_num, by omega, by omega, by simp; omega, HQ.out, by simpa using ho1, hb.trans hb3⟩, by simp [intOf]; omega⟩
          · have hge := decide_eq_true (show (s.size : Int) ≤ (j : Int) + 1 by omega)
            rw [nums_drop_end s (j + 1) (by omega), quoA_esc_end] at hq
            subst hq
            clear hown
            go_wp2
            go_ret3
            exact ⟨rfl, hb⟩
        · have q2 : ((c : Int) == 92) = false := by simpa using e2
          cases hi : isQt (c : Int) with
          | false =>
            rw [quoA_out hi e1 e2] at hq
            subst hq
            have HI := Lib.hid hi
            clear hi hown e1 e2
            go_wp2_with (go_at_call 138; refine (ref06_within _ _).mono ?_; rw [HI.out]; rintro e w' ⟨rfl, rfl⟩)
            go_ret3
            exact ⟨rfl, hb⟩
          | true =>
            rw [quoA_in hi] at hq
            have HQ := Lib.hid hq
            have HI := Lib.hid hi
            obtain ⟨v', w3, hr, ho1, hb3, _⟩ := app_u8 wr w.heap.size u7 acc.length acc hown c (by omega) hb.size
            have HA := Lib.hid hr
            clear hq hi hown hr e1 e2
            go_wp2_with (first | (at_builtin; refine wpList_append_run rfl _ _ _ _ rfl _ _ rfl rfl _ _ HA.out ?_) | (go_at_call 138; refine (ref06_within _ _).mono ?_; rw [HI.out]; rintro e w' ⟨rfl, rfl⟩))
            exact ⟨⟨j + 1, acc ++ [(c : Int)], by go_num, by omega, by omega, by simp; omega, HQ.out, by simpa using ho1, hb.trans hb3⟩, by simp [intOf]; omega⟩
    · rw [nums_drop_end s j (by omega), quoA_nil] at hq
      subst hq
      clear hown
      go_wp2
      go_ret3
      exact ⟨rfl, hb⟩
end Go.Proofs.YthahfoliblgegaaGreatDoor
/- 
  The walk of a quoted text in media's scanner; a parameter's value.
 -/
namespace Go.Proofs.YthahfoliblgegaaGreatDoor
open Go.RowKit
theorem gr_under {a w w' : World} {row : Option Nat} (h : a.grownBy w row) (hb : Below a.heap.size w w') : a.grownBy w' row :=
  ⟨hb.os.trans h.os, hb.tape.trans h.tape, hb.output.trans h.output, Nat.le_trans h.size hb.size, fun b hb' hne => (hb.block b hb').trans (h.block b hb' hne)⟩
/-- within a quoted text: the scanner p is at j, the row v holds acc, nothing else is changed. -/
structure QIn (w wr : World) (p : Nat) (s : ByteArray) (j : Nat) (acc : List Int) (v : Value) : Prop where
  sc : ScanAt wr p s j
  own : wr.ownsRow w.heap.size 5 1 v acc.length (acc.map (Value.int .u8))
  gr : w.grownBy wr (some p)
  lt : p < w.heap.size
theorem QIn.dn {w wr : World} {p : Nat} {s : ByteArray} {j : Nat} {acc : List Int} {v : Value} (q : QIn w wr p s j acc v) (n : Nat) : QIn w (wr.drewN n) p s j acc v :=
  ⟨q.sc.drewN n, q.own, gr_dn q.gr n, q.lt⟩
theorem QIn.far {w wr wx : World} {p : Nat} {s : ByteArray} {j : Nat} {acc : List Int} {v : Value} (q : QIn w wr p s j acc v) (h : wr.grownBy wx (some p)) : wx.ownsRow w.heap.size 5 1 v acc.length (acc.map (Value.int .u8)) := by
  refine q.own.kept h ?_
  cases hv : v.ownBlock with
  | none => exact .inl rfl
  | some k =>
    refine .inr fun e => ?_
    injection e with e
    have := (q.own.lt k hv).1
    have := q.lt
    omega
theorem QIn.step {w wr : World} {p : Nat} {s : ByteArray} {j : Nat} {acc : List Int} {v : Value} (q : QIn w wr p s j acc v) (j' : Nat) : QIn w (wr.setCell ⟨p, 1, none⟩ (.int .i64 j')) p s j' acc v :=
  ⟨q.sc.step j', q.far (gr_set (gr_refl _ _) 1 _), gr_set q.gr 1 _, q.lt⟩
theorem QIn.app {w wr : World} {p : Nat} {s : ByteArray} {j : Nat} {acc : List Int} {v : Value} (q : QIn w wr p s j acc v) (x : Int) (hn : acc.length < 1099511627776) :
    ∃ v' w', (Builtin.append_ #[104, 104] 104 #[v, .slice (some ⟨wr.heap.size, 0, none⟩) 1 1]).run Tryz.prog (wr.alloc (.cells #[.int .u8 x] 5)) = .ok v' w' ∧ QIn w w' p s j (acc ++ [x]) v' := by
  obtain ⟨v', w', h1, h2, h3, _⟩ := app_u8 wr w.heap.size v acc.length acc q.own x hn q.gr.size
  exact ⟨v', w', h1, q.sc.below h3 q.lt, by simpa using h2, gr_under q.gr h3, q.lt⟩
/-- what a quoted text comes to. -/
def QOut (w w' : World) (p : Nat) (s : ByteArray) (R : Option (List Int × List Int)) (e : Ending) : Prop :=
  ∃ (t : ByteArray) (j : Nat), e = .returned (.tuple #[.string t, .bool R.isSome]) ∧ ScanAt w' p s j ∧ j ≤ s.size ∧ w.grownBy w' (some p) ∧ (∀ v r, R = some (v, r) → t = strOfNums v ∧ r = (nums s).drop j)
theorem kinds_esc (c : Nat) (h : c < 256) : (bits .and .i64 (kindsN (c : Nat)) 8 == 0) = !isEsc (c : Nat) := by
  have := (kinds_and c h).2.2.2
  rw [← this, bne, Bool.not_not]
theorem kinds_qt (c : Nat) (h : c < 256) : (bits .and .i64 (kindsN (c : Nat)) 4 == 0) = !isQt (c : Nat) := by
  have := (kinds_and c h).2.2.1
  rw [← this, bne, Bool.not_not]
theorem gr_dr {a w : World} {row : Option Nat} (h : a.grownBy w row) : a.grownBy w.drew row := ⟨h.os, h.tape, h.output, h.size, h.block⟩
theorem quoted_end {w wr : World} {p : Nat} {s : ByteArray} {j : Nat} {acc : List Int} {v : Value} (q : QIn w wr p s j acc v) (hj : j ≤ s.size) (hs : s.size ≤ 1000000) (b : Bool) (hb : atB s j 34 = b) :
    Calls Tryz.prog 52 #[.pointer (some ⟨p, 0, none⟩), .int .u8 34] wr.drew fun e wx => e = .returned (.bool b) ∧ ScanAt wx p s (if b then j + 1 else j) ∧ w.grownBy wx (some p) ∧
      (convert 104 9 v).run Tryz.prog wx = .ok (.string (strOfNums acc)) wx := by
  have h0 : ScanAt wr.drew p s j := q.sc
  subst hb
  refine (scan_is 34 p s j _ h0 hj (by omega)).mono ?_
  rintro e wx ⟨rfl, h1, h2⟩
  have h3 := gr_trans (gr_dr (gr_refl wr (some p))) h2
  exact ⟨rfl, h1, gr_trans q.gr h3, conv_own _ _ _ _ _ (q.far h3)⟩
set_option maxRecDepth 100000 in
set_option maxHeartbeats 8000000 in
theorem scan_quoted (p : Nat) (s : ByteArray) (k : Nat) (w : World) (hsc : ScanAt w p s k) (hk0 : k ≤ s.size) (hs : s.size ≤ 1000000) :
    Calls Tryz.prog 96 #[.pointer (some ⟨p, 0, none⟩)] w fun e w' => QOut w w' p s (quoA [] ((nums s).drop k)) e := by
  obtain ⟨R, hR⟩ : ∃ R, quoA [] ((nums s).drop k) = R := ⟨_, rfl⟩
  rw [hR]
  have HR := Lib.hid hR
  clear hR
  have hp := hsc.place
  go_enter Tryz.func96, Tryz.ntmps96
  go_wp2
  go_step3
  go_wp2
  go_step3
  go_wp2_with fail
  go_loopw [4] (fun v wr => ∃ (j : Nat) (acc : List Int), j ≤ s.size ∧ acc.length ≤ j ∧ quoA acc ((nums s).drop j) = R ∧ QIn w wr p s j acc v) (fun _ wr => s.size - placeOf wr p)
  case atStart => exact ⟨k, [], hk0, by simp, HR.out, hsc, World.ownsRow_nil _ _ _ _, gr_refl _ _, hsc.lt⟩
  case round =>
    obtain ⟨j, acc, hj, hacc, hq, q⟩ := hrel
    have hpl := placeOf_at q.sc
    have ht := q.sc.text
    have hp := q.sc.place
    by_cases hlt : j < s.size
    · have hd : decide ((j : Int) < (s.size : Int)) = true := decide_eq_true (by omega)
      have hdr := nums_drop s j hlt
      obtain ⟨c, hc⟩ : ∃ c, s[j].toNat = c := ⟨_, rfl⟩
      have hc256 : c < 256 := by rw [← hc]; exact byte256 s j hlt
      have hidx := index_str s j hlt (c : Int) j (by rw [hc]) rfl
      have hat := atB_lt hlt 34
      rw [hdr, hc] at hq
      rw [hc] at hat
      clear hdr hc
      go_wp2_with fail
      go_quiet (fail)
      have q2 := q.dn nq
      generalize wr.drewN nq = w2 at q2 ⊢
      have ht2 := q2.sc.text
      have hp2 := q2.sc.place
      go_wp2_with fail
      go_quiet (fail)
      have q3 := q2.dn nq
      generalize w2.drewN nq = w3 at q3 ⊢
      have ht3 := q3.sc.text
      have hp3 := q3.sc.place
      have hf3 := q3.sc.free
      clear ht hp ht2 hp2 hd
      by_cases e1 : (c : Int) = 34
      · have q1 : ((c : Int) == 34) = true := by simpa using e1
        have HAT := Lib.hid (hat.trans q1)
        rw [e1, quoA_quote] at hq
        have HQ := Lib.hid hq
        have hcv := conv_own w3.drew w.heap.size u4 acc.length acc q3.own
        clear hq e1 hat
        go_wp2_with fail
        go_region_with ((go_at_call 52; refine (quoted_end q3 hj hs true HAT.out).mono ?_; rintro e wx ⟨rfl, h1, h2, hcv2⟩))
        all_goals
          rw [if_pos trivial] at h1
          go_wp2
          try rw [Exit.noGoto_ret]
          go_ret2
          rw [← HQ.out]
          exact ⟨_, j + 1, rfl, h1, by omega, h2, by rintro v r e; cases e; exact ⟨rfl, rfl⟩⟩
      · have q1 : ((c : Int) == 34) = false := by simpa using e1
        clear hat
        by_cases e2 : (c : Int) = 92
        · have q2' : ((c : Int) == 92) = true := by simpa using e2
          rw [e2] at hq
          clear e1 e2
          go_wp2_with fail
          have q4 := q3.step (j + 1)
          rw [show (((j + 1 : Nat)) : Int) = (j : Int) + 1 by omega] at q4
          generalize w3.setCell ⟨p, 1, none⟩ (.int .i64 ((j : Int) + 1)) = w4 at q4 ⊢
          have ht4 := q4.sc.text
          have hp4 := q4.sc.place
          rw [show (((j + 1 : Nat)) : Int) = (j : Int) + 1 by omega] at hp4
          clear ht3 hp3 hf3
          by_cases hl2 : j + 1 < s.size
          · have hdr2 := nums_drop s (j + 1) hl2
            obtain ⟨d, hd⟩ : ∃ d, s[j + 1].toNat = d := ⟨_, rfl⟩
            have hd256 : d < 256 := by rw [← hd]; exact byte256 s (j + 1) hl2
            have hidx2 := index_str s (j + 1) hl2 (d : Int) ((j : Int) + 1) (by rw [hd]) (by omega)
            rw [hdr2, hd] at hq
            clear hdr2 hd
            have hge : (((j : Int) + 1) == (s.size : Int)) = false := by simp; omega
            obtain ⟨n, hn⟩ : ∃ n, kindsN (d : Int) = n := ⟨_, rfl⟩
            obtain ⟨m, hm⟩ : ∃ m, bits .and .i64 n 8 = m := ⟨_, rfl⟩
            have hmz := kinds_esc d hd256
            rw [hn, hm] at hmz
            have HN := Lib.hid hn
            cases he : isEsc (d : Int) with
            | false =>
              rw [he] at hmz
              rw [quoA_esc_no he] at hq
              have HQ := Lib.hid hq
              clear he hn hq
              go_quiet ((go_at_call 130; exact Calls.quiet_of_same (kinds_quiet d hd256 n HN.out _)))
              clear hmz hm
              go_wp2
              try rw [Exit.noGoto_ret]
              go_ret2
              rw [← HQ.out]
              exact ⟨_, j + 1, rfl, q4.sc, by omega, gr_dn q4.gr _, by rintro v r e; cases e⟩
            | true =>
              rw [he] at hmz
              rw [quoA_esc he] at hq
              have HQ := Lib.hid hq
              clear he hn hq
              go_quiet ((go_at_call 130; exact Calls.quiet_of_same (kinds_quiet d hd256 n HN.out _)))
              clear hmz hm
              have q5 := q4.dn nq
              generalize w4.drewN nq = w5 at q5 ⊢
              have ht5 := q5.sc.text
              have hp5 := q5.sc.place
              rw [show (((j + 1 : Nat)) : Int) = (j : Int) + 1 by omega] at hp5
              clear ht4 hp4
              go_wp2_with fail
              go_quiet (fail)
              have q6 := q5.dn nq
              generalize w5.drewN nq = w6 at q6 ⊢
              clear ht5 hp5
              obtain ⟨v', w7, hr, q7⟩ := q6.app d (by omega)
              have HA := Lib.hid hr
              clear hr
              have hp7 := q7.sc.place
              have hf7 := q7.sc.free
              rw [show (((j + 1 : Nat)) : Int) = (j : Int) + 1 by omega] at hp7
              have q8 := q7.step (j + 1 + 1)
              have hpl8 := placeOf_at q8.sc
              rw [show (((j + 1 + 1 : Nat)) : Int) = (j : Int) + 2 by omega] at q8 hpl8
              go_wp2_with (at_builtin; refine wpList_append_run rfl _ _ _ _ rfl _ _ rfl rfl _ _ HA.out ?_)
              try rw [show (j : Int) + 1 + 1 = (j : Int) + 2 by omega]
              exact ⟨⟨j + 1 + 1, acc ++ [(d : Int)], by omega, by simp; omega, HQ.out, q8⟩, by rw [hpl, hpl8]; omega⟩
          · have hge : (((j : Int) + 1) == (s.size : Int)) = true := by simp; omega
            rw [nums_drop_end s (j + 1) (by omega), quoA_esc_end] at hq
            have HQ := Lib.hid hq
            clear hq
            go_quiet (fail)
            go_wp2
            try rw [Exit.noGoto_ret]
            go_ret2
            rw [← HQ.out]
            exact ⟨_, j + 1, rfl, q4.sc, by omega, gr_dn q4.gr _, by rintro v r e; cases e⟩
        · have q2' : ((c : Int) == 92) = false := by simpa using e2
          obtain ⟨n, hn⟩ : ∃ n, kindsN (c : Int) = n := ⟨_, rfl⟩
          obtain ⟨m, hm⟩ : ∃ m, bits .and .i64 n 4 = m := ⟨_, rfl⟩
          have hmz := kinds_qt c hc256
          rw [hn, hm] at hmz
          have HN := Lib.hid hn
          cases hi : isQt (c : Int) with
          | false =>
            rw [hi] at hmz
            rw [quoA_out hi e1 e2] at hq
            have HQ := Lib.hid hq
            clear hi hq hn e1 e2
            go_wp2_with (go_at_call 130; refine (kinds_quiet c hc256 n HN.out _).mono ?_; rintro e w' ⟨rfl, rfl⟩)
            try rw [Exit.noGoto_ret]
            go_ret2
            rw [← HQ.out]
            exact ⟨_, j, rfl, q3.sc, by omega, q3.gr, by rintro v r e; cases e⟩
          | true =>
            rw [hi] at hmz
            rw [quoA_in hi] at hq
            have HQ := Lib.hid hq
            clear hi hq hn e1 e2
            obtain ⟨v', w7, hr, q7⟩ := q3.app c (by omega)
            have HA := Lib.hid hr
            clear hr
            have hp7 := q7.sc.place
            have hf7 := q7.sc.free
            have q8 := q7.step (j + 1)
            have hpl8 := placeOf_at q8.sc
            rw [show (((j + 1 : Nat)) : Int) = (j : Int) + 1 by omega] at q8 hpl8
            go_wp2_with (first | (at_builtin; refine wpList_append_run rfl _ _ _ _ rfl _ _ rfl rfl _ _ HA.out ?_) | (go_at_call 130; refine (kinds_quiet c hc256 n HN.out _).mono ?_; rintro e w' ⟨rfl, rfl⟩))
            exact ⟨⟨j + 1, acc ++ [(c : Int)], by omega, by simp; omega, HQ.out, q8⟩, by rw [hpl, hpl8]; omega⟩
    · have hd : decide ((j : Int) < (s.size : Int)) = false := decide_eq_false (by omega)
      rw [nums_drop_end s j (by omega), quoA_nil] at hq
      have HQ := Lib.hid hq
      have HAT := Lib.hid (atB_end (s := s) (k := j) (by omega) 34)
      clear hq
      go_wp2_with fail
      go_quiet (fail)
      have q2 := q.dn nq
      generalize wr.drewN nq = w2 at q2 ⊢
      have hcv := conv_own w2.drew w.heap.size u4 acc.length acc q2.own
      clear ht hp
      go_wp2_with fail
      go_region_with ((go_at_call 52; refine (quoted_end q2 hj hs false HAT.out).mono ?_; rintro e wx ⟨rfl, h1, h2, hcv2⟩))
      all_goals
        rw [if_neg (by decide)] at h1
        go_wp2
        try rw [Exit.noGoto_ret]
        go_ret2
        rw [← HQ.out]
        exact ⟨_, j, rfl, h1, by omega, h2, by rintro v r e; cases e⟩
end Go.Proofs.YthahfoliblgegaaGreatDoor
/- 
  The walks of a parameter's value (media's scanner), of a parameter (the reference).
 -/
namespace Go.Proofs.YthahfoliblgegaaGreatDoor
open Go.RowKit
theorem takeWhile_ne {P : Int → Bool} {c : Int} {r : List Int} (h : P c = true) : (c :: r).takeWhile P ≠ [] := by rw [List.takeWhile_cons, h]; simp
theorem strOfNums_ne (l : List Int) (h : l ≠ []) : strOfNums l ≠ ⟨#[]⟩ := by
  intro e
  have h2 := congrArg (fun b : ByteArray => b.data.toList.length) e
  unfold strOfNums at h2
  simp at h2
  exact h h2
theorem isEmpty_no (b : ByteArray) (h : b ≠ ⟨#[]⟩) : b.toList.isEmpty = false := by
  rw [ByteArray.toList_eq]
  cases hd : b.data.toList with
  | nil =>
    refine absurd ?_ h
    obtain ⟨d⟩ := b
    have : d = #[] := by simpa using hd
    rw [this]
  | cons x xs => rfl
theorem strOfNums_nil : strOfNums [] = ⟨#[]⟩ := rfl
set_option maxRecDepth 100000 in
theorem scan_value (p : Nat) (s : ByteArray) (k : Nat) (w : World) (hsc : ScanAt w p s k) (hk0 : k ≤ s.size) (hs : s.size ≤ 1000000) :
    Calls Tryz.prog 54 #[.pointer (some ⟨p, 0, none⟩)] w fun e w' => QOut w w' p s (valN ((nums s).drop k)) e := by
  cases ha : atB s k 34 with
  | true =>
    have hlt : k < s.size := by
      rcases Nat.lt_or_ge k s.size with h | h
      · exact h
      · rw [atB_end h] at ha; cases ha
    have hv : valN ((nums s).drop k) = quoA [] ((nums s).drop (k + 1)) := by
      have h1 := atB_lt hlt 34
      rw [ha] at h1
      have h2 : (s[k].toNat : Int) = 34 := by simpa using h1.symm
      rw [nums_drop s k hlt, h2]
      rfl
    rw [hv]
    have HA := Lib.hid ha
    clear ha hv
    go_enter Tryz.func54, Tryz.ntmps54
    go_wp2_with fail
    refine (scan_is 34 p s k _ hsc hk0 (by omega)).mono ?_
    rw [HA.out]
    rintro e w1 ⟨rfl, h1, h2⟩
    rw [if_pos rfl] at h1
    go_wp2_with fail
    refine (scan_quoted p s (k + 1) _ h1 (by omega) hs).mono ?_
    rintro e w2 ⟨t, j, rfl, h3, h4, h5, h6⟩
    go_wp2
    go_ret2
    exact ⟨t, j, rfl, h3, h4, gr_trans h2 h5, h6⟩
  | false =>
    have HA := Lib.hid ha
    obtain ⟨T, hT⟩ : ∃ T, ((nums s).drop k).takeWhile isTok = T := ⟨_, rfl⟩
    have hD := drop_span isTok s k
    have hE := spanN_le isTok s k hk0
    have hv : valN ((nums s).drop k) = if T = [] then none else some (T, ((nums s).drop k).dropWhile isTok) := by
      by_cases hlt : k < s.size
      · have h1 := atB_lt hlt 34
        rw [ha] at h1
        have h2 : (s[k].toNat : Int) ≠ 34 := by simpa using h1.symm
        rw [nums_drop s k hlt] at hT ⊢
        unfold valN
        simp only
        rw [if_neg h2]
        cases hb : isTok (s[k].toNat : Int) with
        | true => rw [if_pos rfl, ← hT, if_neg (takeWhile_ne hb)]
        | false =>
          rw [List.takeWhile_cons, hb] at hT
          rw [← hT]
          rfl
      · rw [nums_drop_end s k (by omega)] at hT ⊢
        rw [← hT]
        rfl
    rw [hv]
    clear hv ha
    by_cases hn : T = []
    · rw [if_pos hn]
      subst hn
      go_enter Tryz.func54, Tryz.ntmps54
      go_wp2_with fail
      refine (scan_is 34 p s k _ hsc hk0 (by omega)).mono ?_
      rw [HA.out]
      rintro e w1 ⟨rfl, h1, h2⟩
      rw [if_neg (by decide)] at h1
      go_wp2_with fail
      refine (scan_token p s k _ h1 hk0 (by omega)).mono ?_
      rw [hT, strOfNums_nil]
      rintro e w2 ⟨rfl, h3, h4⟩
      go_wp2
      go_ret2
      exact ⟨_, _, rfl, h3, hE, gr_trans h2 h4, by rintro v r e; cases e⟩
    · have h5 := strOfNums_ne T hn
      obtain ⟨t, ht⟩ : ∃ t, strOfNums T = t := ⟨_, rfl⟩
      have HTT := Lib.hid ht
      rw [if_neg hn]
      rw [ht] at h5
      have h6 := isEmpty_no t h5
      clear ht hn h5
      go_enter Tryz.func54, Tryz.ntmps54
      go_wp2_with fail
      refine (scan_is 34 p s k _ hsc hk0 (by omega)).mono ?_
      rw [HA.out]
      rintro e w1 ⟨rfl, h1, h2⟩
      rw [if_neg (by decide)] at h1
      go_wp2_with fail
      refine (scan_token p s k _ h1 hk0 (by omega)).mono ?_
      rw [hT, HTT.out]
      rintro e w2 ⟨rfl, h3, h4⟩
      go_wp2
      go_ret2
      exact ⟨_, _, rfl, h3, hE, gr_trans h2 h4, by rintro v r e; cases e; exact ⟨HTT.out.symm, hD.symm⟩⟩
theorem quoA_suf : ∀ (n : Nat) (acc l v u : List Int), l.length ≤ n → quoA acc l = some (v, u) → ∃ m, u = l.drop m ∧ m ≤ l.length
  | _, acc, [], v, u, _, h => by rw [quoA_nil] at h; cases h
  | 0, acc, c :: r, v, u, hn, _ => by simp at hn
  | n + 1, acc, c :: r, v, u, hn, h => by
    simp only [List.length_cons] at hn ⊢
    by_cases e1 : c = 34
    · subst e1
      rw [quoA_quote] at h
      cases h
      exact ⟨1, rfl, by omega⟩
    · by_cases e2 : c = 92
      · subst e2
        cases r with
        | nil => cases h
        | cons d r =>
          simp only [List.length_cons] at hn ⊢
          cases he : isEsc d with
          | false => rw [quoA_esc_no he] at h; cases h
          | true =>
            rw [quoA_esc he] at h
            obtain ⟨m, h1, h2⟩ := quoA_suf n _ r v u (by omega) h
            exact ⟨m + 2, by rw [h1]; rfl, by omega⟩
      · cases hi : isQt c with
        | false => rw [quoA_out hi e1 e2] at h; cases h
        | true =>
          rw [quoA_in hi] at h
          obtain ⟨m, h1, h2⟩ := quoA_suf n _ r v u (by omega) h
          exact ⟨m + 1, by rw [h1]; rfl, by omega⟩
/-- what a parameter comes to in the reference. -/
def POut (w w' : World) (s : ByteArray) (R : Option ((List Int × List Int) × List Int)) (e : Ending) : Prop :=
  ∃ (a b : ByteArray) (n : Nat), e = .returned (.tuple #[.agg #[.string a, .string b], .int .i64 n, .bool R.isSome]) ∧ Below w.heap.size w w' ∧
    (∀ nm v u, R = some ((nm, v), u) → a = strOfNums nm ∧ b = strOfNums v ∧ n ≤ s.size ∧ u = (nums s).drop n)
set_option maxRecDepth 100000 in
set_option maxHeartbeats 4000000 in
theorem ref06_param (s : ByteArray) (k : Nat) (w : World) (hk0 : k < s.size) (hs : s.size ≤ 1000000) :
    Calls Tryz.prog 63 #[.string s, .int .i64 k] w fun e w' => POut w w' s (parN ((nums s).drop k)) e := by
  have hD := drop_span isTok s k
  have hE := spanN_le isTok s k (by omega)
  have hX := nums_extract_span isTok s k
  have hZ := span_zero (P := isTok) (s := s) (k := k)
  have hT0 : k ≤ k + spanN isTok s k := Nat.le_add_right _ _
  obtain ⟨T, hT⟩ : ∃ T, ((nums s).drop k).takeWhile isTok = T := ⟨_, rfl⟩
  have HTK := ref06_token s k
  obtain ⟨E, hEE⟩ : ∃ E, k + spanN isTok s k = E := ⟨_, rfl⟩
  rw [hEE] at hD hE hX hT0
  rw [hT] at hX hZ
  by_cases hT1 : T = []
  · have hsp := hZ.2 hT1
    have q1 : ((E : Int) == (k : Int)) = true := by simp; omega
    rw [parN_no (hT.trans hT1)]
    clear hZ hD
    go_enter Tryz.func63, Tryz.ntmps63
    go_wp2_with (go_at_call 61; refine (HTK _ (by omega) (by omega)).mono ?_; rw [hEE]; rintro e w1 ⟨rfl, rfl⟩)
    refine bodyPost_ret (results_cell3 rfl _ _ _ _ _ rfl (BlkAt.new w _ _) Tryz.underlying84 rfl (by kernel_rfl)) rfl ?_
    exact ⟨_, _, 0, rfl, (Below.refl _ w).alloc (Nat.le_refl _) _, by rintro nm v u e; cases e⟩
  · have q1 : ((E : Int) == (k : Int)) = false := by
      have : spanN isTok s k ≠ 0 := fun e => hT1 (hZ.1 e)
      simp
      omega
    clear hZ hT0
    by_cases hlt : E < s.size
    · have hge := decide_eq_false (show ¬ (s.size : Int) ≤ (E : Int) by omega)
      have hdr := nums_drop s E hlt
      obtain ⟨c, hc⟩ : ∃ c, s[E].toNat = c := ⟨_, rfl⟩
      have hidx := index_str s E hlt (c : Int) E (by rw [hc]) rfl
      rw [hdr, hc] at hD
      clear hdr hc
      by_cases hc61 : (c : Int) = 61
      · have q2 : ((c : Int) != 61) = false := by simp [hc61]
        rw [hc61] at hD
        obtain ⟨V, hV⟩ : ∃ V, valN ((nums s).drop (E + 1)) = V := ⟨_, rfl⟩
        rw [parN_eq (by rw [hT]; exact hT1) hD.symm, hT, hV]
        clear hc61 hD
        go_enter Tryz.func63, Tryz.ntmps63
        have hn1 := BlkAt.new w #[.string ⟨#[]⟩, .string ⟨#[]⟩] 84
        have hb1 := (Below.refl w.heap.size w).alloc (Nat.le_refl _) (.cells #[.string ⟨#[]⟩, .string ⟨#[]⟩] 84)
        go_wp2_with fail
        generalize w.alloc (.cells #[.string ⟨#[]⟩, .string ⟨#[]⟩] 84) = w1 at hn1 hb1 ⊢
        go_wp2_with (go_at_call 61; refine (HTK _ (by omega) (by omega)).mono ?_; rw [hEE]; rintro e w1 ⟨rfl, rfl⟩)
        refine (ref06_Lower (s.extract k E) _ (by rw [ByteArray.size_extract]; omega)).mono ?_
        rw [hX]
        rintro e w2 ⟨rfl, hb2⟩
        have hs1 := hn1.lt
        have hn2 := hn1.below hb2 hs1
        have hb12 := hb1.trans (hb2.mono hb1.size)
        have hs2 := hn2.lt
        obtain ⟨b4, hb4⟩ : ∃ b4, w.heap.size = b4 := ⟨_, rfl⟩
        obtain ⟨b8, hb8⟩ : ∃ b8, w2.heap.size = b8 := ⟨_, rfl⟩
        obtain ⟨a, ha⟩ : ∃ a, strOfNums (lowL T) = a := ⟨_, rfl⟩
        have HAA := Lib.hid ha
        have hn3 := BlkAt.new w2 #[.string a, .string ⟨#[]⟩] 84
        have hn2' := hn2.alloc (.cells #[.string a, .string ⟨#[]⟩] 84)
        have hb3 := hb12.alloc (by omega) (.cells #[.string a, .string ⟨#[]⟩] 84)
        have hne : b4 ≠ b8 := by omega
        have hlt48 : b4 ≤ b8 := by omega
        rw [ha, hb4]
        rw [hb8] at hn3
        rw [hb4] at hn2' hb3
        have hbw : w.heap.size = b4 := hb4
        have HB4 := Lib.hid hb4
        clear ha hn1 hb1 hb2 hn2 hb12 hs1 hs2 hbw
        have hv0 : E + 1 ≤ s.size := hlt
        cases hat : atB s (E + 1) 34 with
        | true =>
          have hlt2 : E + 1 < s.size := by
            rcases Nat.lt_or_ge (E + 1) s.size with h | h
            · exact h
            · rw [atB_end h] at hat; cases hat
          have h1 := atB_lt hlt2 34
          rw [hat] at h1
          obtain ⟨d, hd⟩ : ∃ d, s[E + 1].toNat = d := ⟨_, rfl⟩
          have hidx2 := index_str s (E + 1) hlt2 (d : Int) ((E : Int) + 1) (by rw [hd]) (by omega)
          have hdr2 := nums_drop s (E + 1) hlt2
          rw [hd] at h1 hdr2
          have hd34 : (d : Int) = 34 := by simpa using h1.symm
          have hq34 : ((d : Int) == 34) = true := h1.symm
          rw [hdr2, hd34, valN_quote] at hV
          have HV := Lib.hid hV
          clear hdr2 hd34 h1 hd hV
          have hl2 := decide_eq_true (show (E : Int) + 1 < (s.size : Int) by omega)
          go_wp2_with fail
          generalize w2.alloc (.cells #[.string a, .string ⟨#[]⟩] 84) = w3 at hn3 hn2' hb3 ⊢
          rw [show ((E : Int) + 1) = ((E + 1 : Nat) : Int) by omega]
          refine (ref06_quoted s (E + 1) _ hlt2 hs).mono ?_
          rw [HV.out]
          rintro e w4 ⟨rfl, hb4'⟩
          have hl3 := hn3.lt
          have hl4 := hn2'.lt
          have hn5 := hn3.below hb4' hl3
          have hn6 := hn2'.below hb4' hl4
          have hb5 := hb3.trans (hb4'.mono (Nat.le_of_lt hl4))
          clear hn3 hn2' hb3 hb4' hl3 hl4
          obtain ⟨v, hv⟩ : ∃ v, quoS V = v := ⟨_, rfl⟩
          obtain ⟨n, hnn⟩ : ∃ n, quoE s V = n := ⟨_, rfl⟩
          have hc0 := hn5.cell 0 rfl
          have hc1 := hn5.cell 1 rfl
          have hc2 := hn6.cell 0 rfl
          have hc3 := hn6.cell 1 rfl
          have hf0 := hn5.free 0
          have hf1 := hn5.free 1
          have hf2 := hn6.free 0
          have hf3 := hn6.free 1
          have hr := ((hn6.far hne 1 (.string v)).set 0 (.string a)).set 1 (.string v)
          have hbr := ((hb5.setCell (p := ⟨b8, 1, none⟩) hlt48 (.string v)).setCell (p := ⟨b4, 0, none⟩) (Nat.le_refl _) (.string a)).setCell (p := ⟨b4, 1, none⟩) (Nat.le_refl _) (.string v)
          rw [hv, hnn]
          have hv' := Lib.hid hv
          have hnn' := Lib.hid hnn
          clear hv hnn hn5 hn6 hb5
          have HBR := Lib.hid hbr
          have HRR := Lib.hid hr
          clear hbr hr
          go_wp2
          refine bodyPost_ret (results_cell3 rfl _ _ _ _ _ rfl HRR.out Tryz.underlying84 rfl (by kernel_rfl)) rfl ?_
          refine ⟨a, v, n, by cases V <;> rfl, by rw [HB4.out]; exact HBR.out, ?_⟩
          rintro nm v' u e
          cases V with
          | none => cases e
          | some vu =>
            obtain ⟨x, y⟩ := vu
            simp only [Option.map_some, Option.some.injEq, Prod.mk.injEq] at e
            obtain ⟨⟨rfl, rfl⟩, rfl⟩ := e
            obtain ⟨m, h7, h8⟩ := quoA_suf _ _ _ _ _ (Nat.le_refl _) HV.out
            rw [List.drop_drop] at h7
            rw [List.length_drop, nums_length] at h8
            have h9 := hnn'.out
            rw [h7, quoE_drop s x _ (by omega)] at h9
            exact ⟨HAA.out.symm, hv'.out.symm, by omega, by rw [h7, ← h9]⟩
        | false =>
          have hhd : ((nums s).drop (E + 1)).head? ≠ some 34 := by
            intro h
            unfold atB at hat
            rw [h] at hat
            cases hat
          rw [valN_tok hhd] at hV
          have hF0 := spanN_le isTok s (E + 1) hv0
          have hF1 : E + 1 ≤ E + 1 + spanN isTok s (E + 1) := Nat.le_add_right _ _
          have hF2 := drop_span isTok s (E + 1)
          have hF3 := extract_span isTok s (E + 1)
          have hF4 := span_zero (P := isTok) (s := s) (k := E + 1)
          have HTK2 := ref06_token s (E + 1)
          obtain ⟨F, hF⟩ : ∃ F, E + 1 + spanN isTok s (E + 1) = F := ⟨_, rfl⟩
          rw [hF] at hF0 hF1 hF2 hF3 HTK2
          obtain ⟨T2, hT2⟩ : ∃ T2, ((nums s).drop (E + 1)).takeWhile isTok = T2 := ⟨_, rfl⟩
          rw [hT2] at hF3 hF4 hV
          obtain ⟨vb, hvb⟩ : ∃ vb, V.isSome = vb := ⟨_, rfl⟩
          have hgt : decide ((E : Int) + 1 < (F : Int)) = vb := by
            rw [← hvb, ← hV]
            by_cases h : T2 = []
            · have := hF4.2 h
              rw [if_pos h]
              exact decide_eq_false (by omega)
            · have : spanN isTok s (E + 1) ≠ 0 := fun e => h (hF4.1 e)
              rw [if_neg h]
              exact decide_eq_true (by omega)
          have HGT := Lib.hid hgt
          have HVB := Lib.hid hvb
          have HV := Lib.hid hV
          rw [show ((E + 1 : Nat) : Int) = (E : Int) + 1 by omega] at HTK2
          obtain ⟨v, hv⟩ : ∃ v, s.extract (E + 1) F = v := ⟨_, rfl⟩
          have hv' := Lib.hid (hv.symm.trans hF3)
          clear hV hF4 hhd hgt hvb hF hF3
          have tl : ∀ w', Below b4 w w' → BlkAt w' b4 #[.string a, .string v] → POut w w' s (V.map fun vu => ((lowL T, vu.1), vu.2)) (.returned (.tuple #[.agg #[.string a, .string v], .int .i64 F, .bool vb])) := by
            intro w' h1 _
            refine ⟨a, v, F, by rw [← HVB.out]; cases V <;> rfl, by rw [HB4.out]; exact h1, ?_⟩
            rintro nm v' u e
            have h2 := HV.out
            by_cases h : T2 = []
            · rw [if_pos h] at h2
              rw [← h2] at e
              cases e
            · rw [if_neg h] at h2
              rw [← h2] at e
              simp only [Option.map_some, Option.some.injEq, Prod.mk.injEq] at e
              obtain ⟨⟨rfl, rfl⟩, rfl⟩ := e
              exact ⟨HAA.out.symm, hv'.out, hF0, hF2.symm⟩
          have HTL := Lib.hid tl
          clear tl
          by_cases hlt2 : E + 1 < s.size
          · have h1 := atB_lt hlt2 34
            rw [hat] at h1
            obtain ⟨d, hd⟩ : ∃ d, s[E + 1].toNat = d := ⟨_, rfl⟩
            have hidx2 := index_str s (E + 1) hlt2 (d : Int) ((E : Int) + 1) (by rw [hd]) (by omega)
            rw [hd] at h1
            have hq34 : ((d : Int) == 34) = false := h1.symm
            clear h1 hd
            have hl2 := decide_eq_true (show (E : Int) + 1 < (s.size : Int) by omega)
            go_wp2_with fail
            generalize w2.alloc (.cells #[.string a, .string ⟨#[]⟩] 84) = w3 at hn3 hn2' hb3 ⊢
            have hc0 := hn3.cell 0 rfl
            have hc1 := hn3.cell 1 rfl
            have hc2 := hn2'.cell 0 rfl
            have hc3 := hn2'.cell 1 rfl
            have hf0 := hn3.free 0
            have hf1 := hn3.free 1
            have hf2 := hn2'.free 0
            have hf3 := hn2'.free 1
            have HRR := Lib.hid (((hn2'.far hne 1 (.string v)).set 0 (.string a)).set 1 (.string v))
            have HBR := Lib.hid (((hb3.setCell (p := ⟨b8, 1, none⟩) hlt48 (.string v)).setCell (p := ⟨b4, 0, none⟩) (Nat.le_refl _) (.string a)).setCell (p := ⟨b4, 1, none⟩) (Nat.le_refl _) (.string v))
            clear hn3 hn2' hb3
            have HG := HGT.out
            go_wp2_with (go_at_call 61; refine (HTK2 _ hv0 (by omega)).mono ?_; rintro e w1 ⟨rfl, rfl⟩)
            refine bodyPost_ret (results_cell3 rfl _ _ _ _ _ rfl HRR.out Tryz.underlying84 rfl (by kernel_rfl)) rfl ?_
            exact HTL.out _ HBR.out HRR.out
          · have hl2 := decide_eq_false (show ¬ (E : Int) + 1 < (s.size : Int) by omega)
            go_wp2_with fail
            generalize w2.alloc (.cells #[.string a, .string ⟨#[]⟩] 84) = w3 at hn3 hn2' hb3 ⊢
            have hc0 := hn3.cell 0 rfl
            have hc1 := hn3.cell 1 rfl
            have hc2 := hn2'.cell 0 rfl
            have hc3 := hn2'.cell 1 rfl
            have hf0 := hn3.free 0
            have hf1 := hn3.free 1
            have hf2 := hn2'.free 0
            have hf3 := hn2'.free 1
            have HRR := Lib.hid (((hn2'.far hne 1 (.string v)).set 0 (.string a)).set 1 (.string v))
            have HBR := Lib.hid (((hb3.setCell (p := ⟨b8, 1, none⟩) hlt48 (.string v)).setCell (p := ⟨b4, 0, none⟩) (Nat.le_refl _) (.string a)).setCell (p := ⟨b4, 1, none⟩) (Nat.le_refl _) (.string v))
            clear hn3 hn2' hb3
            have HG := HGT.out
            go_wp2_with (go_at_call 61; refine (HTK2 _ hv0 (by omega)).mono ?_; rintro e w1 ⟨rfl, rfl⟩)
            refine bodyPost_ret (results_cell3 rfl _ _ _ _ _ rfl HRR.out Tryz.underlying84 rfl (by kernel_rfl)) rfl ?_
            exact HTL.out _ HBR.out HRR.out
      · have q2 : ((c : Int) != 61) = true := by simpa using hc61
        rw [parN_other hD.symm hc61]
        clear hc61 hD
        go_enter Tryz.func63, Tryz.ntmps63
        go_wp2_with (go_at_call 61; refine (HTK _ (by omega) (by omega)).mono ?_; rw [hEE]; rintro e w1 ⟨rfl, rfl⟩)
        refine bodyPost_ret (results_cell3 rfl _ _ _ _ _ rfl (BlkAt.new w _ _) Tryz.underlying84 rfl (by kernel_rfl)) rfl ?_
        exact ⟨_, _, 0, rfl, (Below.refl _ w).alloc (Nat.le_refl _) _, by rintro nm v u e; cases e⟩
    · have hge := decide_eq_true (show (s.size : Int) ≤ (E : Int) by omega)
      rw [nums_drop_end s E (by omega)] at hD
      rw [parN_end hD.symm]
      clear hD
      go_enter Tryz.func63, Tryz.ntmps63
      go_wp2_with (go_at_call 61; refine (HTK _ (by omega) (by omega)).mono ?_; rw [hEE]; rintro e w1 ⟨rfl, rfl⟩)
      refine bodyPost_ret (results_cell3 rfl _ _ _ _ _ rfl (BlkAt.new w _ _) Tryz.underlying84 rfl (by kernel_rfl)) rfl ?_
      exact ⟨_, _, 0, rfl, (Below.refl _ w).alloc (Nat.le_refl _) _, by rintro nm v u e; cases e⟩
end Go.Proofs.YthahfoliblgegaaGreatDoor
/- 
  The plain reader of Content-Types, case by case. No program in sight.
 -/
namespace Go.Proofs.YthahfoliblgegaaGreatDoor
theorem parseN_no1 {l : List Int} (h : (l.dropWhile isBl).takeWhile isTok = []) : parseN l = none := by
  unfold parseN
  simp only
  rw [h]
theorem parseN_no2 {l : List Int} (h : (l.dropWhile isBl).dropWhile isTok = []) : parseN l = none := by
  unfold parseN
  simp only
  rw [h]
  cases (l.dropWhile isBl).takeWhile isTok <;> rfl
theorem parseN_no3 {l r : List Int} {c : Int} (h : (l.dropWhile isBl).dropWhile isTok = c :: r) (hc : c ≠ 47) : parseN l = none := by
  unfold parseN
  simp only
  rw [h]
  cases (l.dropWhile isBl).takeWhile isTok with
  | nil => rfl
  | cons a az => exact if_pos hc
theorem parseN_no4 {l r : List Int} (h : (l.dropWhile isBl).dropWhile isTok = 47 :: r) (hr : r.takeWhile isTok = []) : parseN l = none := by
  unfold parseN
  simp only
  rw [h]
  cases (l.dropWhile isBl).takeWhile isTok with
  | nil => rfl
  | cons a az =>
    simp only
    rw [if_neg (by decide), hr]
theorem parseN_eq {l r : List Int} (h0 : (l.dropWhile isBl).takeWhile isTok ≠ []) (h : (l.dropWhile isBl).dropWhile isTok = 47 :: r) (hr : r.takeWhile isTok ≠ []) :
    parseN l = (parW [] ((r.dropWhile isTok).dropWhile isBl)).map fun ps => (lowL ((l.dropWhile isBl).takeWhile isTok ++ 47 :: r.takeWhile isTok), ps) := by
  have hf : parA (l.length + 1) [] ((r.dropWhile isTok).dropWhile isBl) = parW [] ((r.dropWhile isTok).dropWhile isBl) := by
    have h1 := dropWhile_len isBl l
    have h2 := dropWhile_len isTok (l.dropWhile isBl)
    have h3 := dropWhile_len isTok r
    have h4 := dropWhile_len isBl (r.dropWhile isTok)
    rw [h] at h2
    simp only [List.length_cons] at h2
    exact parA_fuel _ _ _ _ (by omega) (by omega)
  unfold parseN
  simp only
  rw [h, ← hf]
  cases hl : (l.dropWhile isBl).takeWhile isTok with
  | nil => exact absurd hl h0
  | cons a az =>
    simp only
    rw [if_neg (by decide)]
    cases hq : r.takeWhile isTok with
    | nil => exact absurd hq hr
    | cons b bs => rfl
/-- the type of a Content-Type, between its two ends. -/
theorem nums_extract_two (s : ByteArray) (k : Nat) (hs : k ≤ s.size) (hD : ∃ r, (nums s).drop (k + spanN isTok s k) = 47 :: r) :
    nums (s.extract k (k + spanN isTok s k + 1 + spanN isTok s (k + spanN isTok s k + 1))) = ((nums s).drop k).takeWhile isTok ++ 47 :: ((nums s).drop (k + spanN isTok s k + 1)).takeWhile isTok := by
  obtain ⟨r, hD⟩ := hD
  have hE := spanN_le isTok s k hs
  have hlt : k + spanN isTok s k < s.size := by
    rcases Nat.lt_or_ge (k + spanN isTok s k) s.size with h | h
    · exact h
    · rw [nums_drop_end s _ h] at hD; cases hD
  have hr : r = (nums s).drop (k + spanN isTok s k + 1) := by
    rw [nums_drop s _ hlt] at hD
    injection hD with h1 h2
    exact h2.symm
  have h1 := (List.takeWhile_append_dropWhile (p := isTok) (l := (nums s).drop k)).symm
  rw [← drop_span isTok s k, hD, hr] at h1
  have h2 := (List.takeWhile_append_dropWhile (p := isTok) (l := (nums s).drop (k + spanN isTok s k + 1))).symm
  rw [nums_extractM]
  conv => lhs; rw [h1, h2]
  rw [← List.cons_append, ← List.append_assoc]
  refine List.take_left' ?_
  rw [List.length_append, List.length_cons]
  show spanN isTok s k + (spanN isTok s (k + spanN isTok s k + 1) + 1) = _
  omega
/-- the cells of parameters. -/
def parCells (ps : List (List Int × List Int)) : List Value := ps.flatMap fun p => [.string (strOfNums p.1), .string (strOfNums p.2)]
theorem parCells_snoc (ps : List (List Int × List Int)) (p : List Int × List Int) : parCells (ps ++ [p]) = parCells ps ++ [.string (strOfNums p.1), .string (strOfNums p.2)] := by
  unfold parCells
  rw [List.flatMap_append]
  rfl
def medR (R : Option (List Int × List (List Int × List Int))) : List Int × List (List Int × List Int) := R.getD ([], [])
end Go.Proofs.YthahfoliblgegaaGreatDoor
/- 
  A slice that reads, cell by cell, as a list of cells: slices of structs.
 -/
namespace Go.Proofs.YthahfoliblgegaaGreatDoor
open Go.RowKit
/-- the slice value reads, cell by cell, as cs. -/
def CReads (B : Nat) (w : World) (v : Value) (n : Nat) (cs : List Value) : Prop :=
  ∃ a cap, v = .slice a n cap ∧ ∀ i u, cs[i]? = some u → ∃ b off, a = some ⟨b, off, none⟩ ∧ b < B ∧ w.cell? ⟨b, off + i, none⟩ = some u
theorem CReads.below {B : Nat} {w w' : World} {v : Value} {n : Nat} {cs : List Value} (h : CReads B w v n cs) {C : Nat} (hb : Below C w w') (hBC : B ≤ C) : CReads B w' v n cs := by
  obtain ⟨a, cap, rfl, h⟩ := h
  refine ⟨a, cap, rfl, fun i u hi => ?_⟩
  obtain ⟨b, off, rfl, hb', hc⟩ := h i u hi
  exact ⟨b, off, rfl, hb', (hb.cell (p := ⟨b, off + i, none⟩) (by show b < C; omega)).trans hc⟩
theorem CReads.mono {B C : Nat} {w : World} {v : Value} {n : Nat} {cs : List Value} (h : CReads B w v n cs) (hBC : B ≤ C) : CReads C w v n cs := by
  obtain ⟨a, cap, rfl, h⟩ := h
  refine ⟨a, cap, rfl, fun i u hi => ?_⟩
  obtain ⟨b, off, rfl, hb', hc⟩ := h i u hi
  exact ⟨b, off, rfl, by omega, hc⟩
theorem CReads.of_own {w : World} {base : Nat} {e : TypeId} {size : Nat} {v : Value} {n : Nat} {xs : List Value} (h : w.ownsRow base e size v n xs) : CReads w.heap.size w v n xs := by
  rcases h.2 with ⟨rfl, rfl⟩ | ⟨g, cap, cur, rfl, h1, hg, h2, h3, h4, h5⟩
  · have : xs = [] := List.eq_nil_of_length_eq_zero (by rw [h.1, Nat.zero_mul])
    subst this
    exact ⟨none, 0, rfl, fun i u hi => by simp at hi⟩
  · refine ⟨some ⟨g, 0, none⟩, cap, rfl, fun i u hi => ⟨g, 0, rfl, (Array.getElem?_eq_some_iff.1 hg).1, ?_⟩⟩
    have := h.cells (g := g) rfl i u hi
    rwa [addr0] at this
end Go.Proofs.YthahfoliblgegaaGreatDoor
/- 
  The walk of Parse in the reference.
 -/
namespace Go.Proofs.YthahfoliblgegaaGreatDoor
open Go.RowKit
theorem infoPar : (Tryz.prog.info? 84).map (fun i => (i.zero, i.size, i.bytes)) = some (some (.agg #[.string ⟨#[]⟩, .string ⟨#[]⟩]), 2, 32) := by kernel_rfl
/-- 'append(ps, p)' of one parameter. -/
theorem app_par (wr : World) (base : Nat) (v : Value) (n : Nat) (xs : List Value) (hown : wr.ownsRow base 84 2 v n xs) (x y : ByteArray) (hn : n < 1099511627776) (hbase : base ≤ wr.heap.size) :
    ∃ v' w', (Builtin.append_ #[45, 45] 45 #[v, .slice (some ⟨wr.heap.size, 0, none⟩) 1 1]).run Tryz.prog (wr.alloc (.cells #[.string x, .string y] 84)) = .ok v' w' ∧
      w'.ownsRow base 84 2 v' (n + 1) (xs ++ [.string x, .string y]) ∧ Below base wr w' := by
  obtain ⟨i0, hi, hz0, hz1, hz2⟩ := info_parts infoPar
  obtain ⟨v', w', h1, h2, h3, h4⟩ := run_append_own (P := Tryz.prog) (wr.alloc (.cells #[.string x, .string y] 84)) base 45 45 84 i0 (.agg #[.string ⟨#[]⟩, .string ⟨#[]⟩]) 2 32 Tryz.underlying45 hi hz0 hz1 hz2 rfl (by decide) v n _ (hown.alloc _) ⟨wr.heap.size, 0, none⟩ 1 1 [.string x, .string y] rfl
    (fun j u hj => by
      match j, hj with
      | 0, hj => simp at hj; subst hj; simp [Addr.add, World.cell?_alloc_mark]
      | 1, hj => simp at hj; subst hj; simp [Addr.add, World.cell?_alloc_mark])
    (fun u hu => by simp at hu; rcases hu with rfl | rfl <;> rfl) (by unfold maxLen; omega) (by omega) (by simp; omega)
  exact ⟨v', w', h1, by simpa using h2, ((Below.refl base wr).alloc hbase _).trans (ownBelow (hown.alloc _) h3 (Nat.le_refl _) (by simp; omega))⟩
/-- what Parse comes to. -/
def MOut (w w' : World) (R : Option (List Int × List (List Int × List Int))) (e : Ending) : Prop :=
  ∃ v, e = .returned (.tuple #[.agg #[.string (strOfNums (medR R).1), v], .int .i64 (if R.isSome then 0 else 70)]) ∧ Below w.heap.size w w' ∧ CReads w'.heap.size w' v (medR R).2.length (parCells (medR R).2)
theorem MOut.no {w w' : World} (hb : Below w.heap.size w w') : MOut w w' none (.returned (.tuple #[.agg #[.string ⟨#[]⟩, .slice none 0 0], .int .i64 70])) :=
  ⟨_, rfl, hb, none, 0, rfl, fun i u hi => by simp [medR, parCells] at hi⟩
/-- within the loop of Parse: the result variable in block b2, what is read in b7, its parameters in the row v. -/
structure RIn (w wr : World) (b2 b7 : Nat) (ty : ByteArray) (v : Value) (ps : List (List Int × List Int)) : Prop where
  own : wr.ownsRow (b7 + 1) 84 2 v ps.length (parCells ps)
  out : BlkAt wr b2 #[.string ⟨#[]⟩, .slice none 0 0]
  med : BlkAt wr b7 #[.string ty, v]
  bl : Below b2 w wr
  lt : b2 < b7
theorem RIn.below {w wr wx : World} {b2 b7 : Nat} {ty : ByteArray} {v : Value} {ps : List (List Int × List Int)} (q : RIn w wr b2 b7 ty v ps) (hb : Below wr.heap.size wr wx) : RIn w wx b2 b7 ty v ps :=
  ⟨own_below q.own hb (Nat.le_refl _), q.out.below hb q.out.lt, q.med.below hb q.med.lt, q.bl.trans (hb.mono (Nat.le_of_lt q.out.lt)), q.lt⟩
theorem RIn.app {w wr : World} {b2 b7 : Nat} {ty : ByteArray} {v : Value} {ps : List (List Int × List Int)} (q : RIn w wr b2 b7 ty v ps) (p : List Int × List Int) (x y : ByteArray) (hx : x = strOfNums p.1) (hy : y = strOfNums p.2) (hn : ps.length < 1099511627776) :
    ∃ v' w', (Builtin.append_ #[45, 45] 45 #[v, .slice (some ⟨wr.heap.size, 0, none⟩) 1 1]).run Tryz.prog (wr.alloc (.cells #[.string x, .string y] 84)) = .ok v' w' ∧
      BlkAt w' b7 #[.string ty, v] ∧ RIn w (w'.setCell ⟨b7, 1, none⟩ v') b2 b7 ty v' (ps ++ [p]) := by
  obtain ⟨v', w', h1, h2, h3⟩ := app_par wr (b7 + 1) v ps.length _ q.own x y hn q.med.lt
  have hlt := q.lt
  have hm := q.med.below h3 (by omega)
  have ho := q.out.below h3 (by omega)
  have hbl := q.bl.trans (h3.mono (by omega))
  refine ⟨v', w', h1, hm, ⟨?_, ho.far (by omega) 1 _, hm.set 1 v', hbl.setCell (p := ⟨b7, 1, none⟩) (by show b2 ≤ b7; omega) _, hlt⟩⟩
  rw [parCells_snoc, ← hx, ← hy]
  simp only [List.length_append, List.length_singleton]
  refine h2.kept (gr_set (gr_refl w' (some b7)) 1 v') ?_
  cases hv : v'.ownBlock with
  | none => exact .inl rfl
  | some k =>
    refine .inr fun e => ?_
    injection e with e
    have := (h2.lt k hv).1
    omega
set_option maxRecDepth 100000 in
set_option maxHeartbeats 8000000 in
theorem ref06_Parse (s : ByteArray) (w : World) (hs : s.size ≤ 100000) :
    Calls Tryz.prog 28 #[.string s] w fun e w' => MOut w w' (parseN (nums s)) e := by
  have HBL : ∀ w, Calls Tryz.prog 60 #[.string s, .int .i64 0] w fun e w' => e = .returned (.int .i64 ((spanN isBl s 0 : Nat) : Int)) ∧ w = w' := by
    intro w
    have := ref06_blanks s 0 w (by omega) (by omega)
    rw [Nat.zero_add] at this
    exact this
  have hA0 := spanN_le isBl s 0 (by omega)
  have hA1 := drop_span isBl s 0
  rw [List.drop_zero] at hA1
  rw [Nat.zero_add] at hA0 hA1
  obtain ⟨A, hA⟩ : ∃ A, spanN isBl s 0 = A := ⟨_, rfl⟩
  rw [hA] at HBL hA0 hA1
  clear hA
  have HTK := ref06_token s A
  have hE := spanN_le isTok s A hA0
  have hD := drop_span isTok s A
  have hX := nums_extract_two s A hA0
  have hZ := span_zero (P := isTok) (s := s) (k := A)
  have hT0 : A ≤ A + spanN isTok s A := Nat.le_add_right _ _
  obtain ⟨E, hEE⟩ : ∃ E, A + spanN isTok s A = E := ⟨_, rfl⟩
  rw [hEE] at hE hD hX HTK hT0
  by_cases hT1 : ((nums s).drop A).takeWhile isTok = []
  · rw [parseN_no1 (by rw [← hA1]; exact hT1)]
    have hsp := hZ.2 hT1
    have q1 : ((E : Int) == (A : Int)) = true := by simp; omega
    clear hZ hD hX
    go_enter Tryz.func28, Tryz.ntmps28
    go_wp2_with (first | (go_at_call 60; refine (HBL _).mono ?_; rintro e w' ⟨rfl, rfl⟩) | (go_at_call 61; refine (HTK _ hA0 (by omega)).mono ?_; rintro e w' ⟨rfl, rfl⟩))
    refine bodyPost_ret (results_cell2 rfl _ _ _ _ _ rfl (BlkAt.new w _ _) Tryz.underlying47 rfl (by kernel_rfl)) rfl ?_
    exact MOut.no ((Below.refl _ w).alloc (Nat.le_refl _) _)
  · have q1 : ((E : Int) == (A : Int)) = false := by
      have : spanN isTok s A ≠ 0 := fun e => hT1 (hZ.1 e)
      simp
      omega
    clear hZ hT0
    by_cases hlt : E < s.size
    · have hge := decide_eq_false (show ¬ (s.size : Int) ≤ (E : Int) by omega)
      have hdr := nums_drop s E hlt
      obtain ⟨c, hc⟩ : ∃ c, s[E].toNat = c := ⟨_, rfl⟩
      have hidx := index_str s E hlt (c : Int) E (by rw [hc]) rfl
      rw [hdr, hc] at hD hX
      clear hdr hc
      by_cases hc47 : (c : Int) = 47
      · have q2 : ((c : Int) != 47) = false := by simp [hc47]
        rw [hc47] at hD hX
        have hX2 := hX ⟨_, rfl⟩
        have hv0 : E + 1 ≤ s.size := hlt
        have HTK2 := ref06_token s (E + 1)
        have hF0 := spanN_le isTok s (E + 1) hv0
        have hF1 : E + 1 ≤ E + 1 + spanN isTok s (E + 1) := Nat.le_add_right _ _
        have hF2 := drop_span isTok s (E + 1)
        have hF4 := span_zero (P := isTok) (s := s) (k := E + 1)
        obtain ⟨F, hF⟩ : ∃ F, E + 1 + spanN isTok s (E + 1) = F := ⟨_, rfl⟩
        rw [hF] at hF0 hF1 hF2 HTK2 hX2
        rw [show ((E + 1 : Nat) : Int) = (E : Int) + 1 by omega] at HTK2
        clear hX
        by_cases hT2 : ((nums s).drop (E + 1)).takeWhile isTok = []
        · have hsp := hF4.2 hT2
          have hFE : F = E + 1 := by omega
          rw [parseN_no4 (by rw [← hA1]; exact hD.symm) hT2]
          clear hF4 hF hc47 hD hX2 hF2 hsp hT2 hT1 hF1 hF0 hA1 hEE
          subst hFE
          rw [show ((E + 1 : Nat) : Int) = (E : Int) + 1 by omega] at HTK2
          go_enter Tryz.func28, Tryz.ntmps28
          go_wp2_with fail
          refine (HBL _).mono ?_
          rintro e w' ⟨rfl, rfl⟩
          go_wp2_with fail
          refine (HTK _ hA0 (by omega)).mono ?_
          rintro e w' ⟨rfl, rfl⟩
          go_wp2_with fail
          refine (HTK2 _ hv0 (by omega)).mono ?_
          rintro e w' ⟨rfl, rfl⟩
          go_wp2_with fail
          refine bodyPost_ret (results_cell2 rfl _ _ _ _ _ rfl (BlkAt.new w _ _) Tryz.underlying47 rfl (by kernel_rfl)) rfl ?_
          exact MOut.no ((Below.refl _ w).alloc (Nat.le_refl _) _)
        · have q3 : ((F : Int) == (E : Int) + 1) = false := by
            have : spanN isTok s (E + 1) ≠ 0 := fun e => hT2 (hF4.1 e)
            simp
            omega
          rw [parseN_eq (by rw [← hA1]; exact hT1) (by rw [← hA1]; exact hD.symm) hT2, ← hA1]
          obtain ⟨L, hL⟩ : ∃ L, lowL (((nums s).drop A).takeWhile isTok ++ 47 :: ((nums s).drop (E + 1)).takeWhile isTok) = L := ⟨_, rfl⟩
          rw [← hF2, hL]
          have hG0 := spanN_le isBl s F hF0
          have hG2 := drop_span isBl s F
          have HBL2 := ref06_blanks s F
          obtain ⟨G, hG⟩ : ∃ G, F + spanN isBl s F = G := ⟨_, rfl⟩
          rw [hG] at hG0 hG2 HBL2
          rw [← hG2]
          obtain ⟨R, hR⟩ : ∃ R, parW [] ((nums s).drop G) = R := ⟨_, rfl⟩
          rw [hR]
          have HRR := Lib.hid hR
          have HLL := Lib.hid hL
          have HX2 := Lib.hid hX2
          have hAF : A ≤ F := by omega
          have hge' : ¬ s.size ≤ E := by omega
          clear hF4 hF hc47 hD hX2 hF2 hG2 hR hG hL hT2 hT1 hA1 hEE
          go_enter Tryz.func28, Tryz.ntmps28
          have hn1 := BlkAt.new w #[.string ⟨#[]⟩, .slice none 0 0] 47
          have hb1 := (Below.refl w.heap.size w).alloc (Nat.le_refl _) (.cells #[.string ⟨#[]⟩, .slice none 0 0] 47)
          go_wp2_with fail
          generalize w.alloc (.cells #[.string ⟨#[]⟩, .slice none 0 0] 47) = w1 at hn1 hb1 ⊢
          go_wp2_with fail
          refine (HBL _).mono ?_
          rintro e w' ⟨rfl, rfl⟩
          go_wp2_with fail
          refine (HTK _ hA0 (by omega)).mono ?_
          rintro e w' ⟨rfl, rfl⟩
          go_wp2_with fail
          refine (HTK2 _ hv0 (by omega)).mono ?_
          rintro e w' ⟨rfl, rfl⟩
          go_wp2_with fail
          refine (ref06_Lower (s.extract A F) _ (by rw [ByteArray.size_extract]; omega)).mono ?_
          rw [HX2.out, HLL.out]
          rintro e w2 ⟨rfl, hb2⟩
          have hs1 := hn1.lt
          have hn2 := hn1.below hb2 hs1
          have hb12 := hb1.trans (hb2.mono hb1.size)
          have hs2 := hn2.lt
          obtain ⟨b2, hbb2⟩ : ∃ b2, w.heap.size = b2 := ⟨_, rfl⟩
          obtain ⟨b7, hbb7⟩ : ∃ b7, w2.heap.size = b7 := ⟨_, rfl⟩
          obtain ⟨ty, hty⟩ : ∃ ty, strOfNums L = ty := ⟨_, rfl⟩
          have HTY := Lib.hid hty
          have q0 : RIn w (w2.alloc (.cells #[.string ty, .slice none 0 0] 47)) b2 b7 ty (.slice none 0 0) [] :=
            ⟨World.ownsRow_nil _ _ _ _, by rw [← hbb2]; exact hn2.alloc _, by rw [← hbb7]; exact BlkAt.new w2 _ _, by rw [← hbb2]; exact hb12.alloc (by omega) _, by omega⟩
          have HB2 := Lib.hid hbb2
          rw [hty, hbb2]
          clear hty hn1 hb1 hb2 hn2 hb12 hs1 hs2
          go_wp2_with fail
          generalize w2.alloc (.cells #[.string ty, .slice none 0 0] 47) = w3 at q0 ⊢
          refine (HBL2 _ hF0 (by omega)).mono ?_
          rintro e w4 ⟨rfl, rfl⟩
          clear HBL HBL2 HTK HTK2 hbb7 hbb2 hF1 hidx q1 q2 q3
          go_wp2_with fail
          go_loopw [4] (fun i wr => ∃ (j : Nat) (ps : List (List Int × List Int)) (v : Value), i = .int .i64 j ∧ j ≤ s.size ∧ ps.length ≤ j ∧ parW ps ((nums s).drop j) = R ∧ RIn w wr b2 b7 ty v ps) (fun i _ => s.size - (intOf i).toNat)
          case atStart => exact ⟨G, [], _, rfl, hG0, by simp, HRR.out, q0⟩
          case round =>
            obtain ⟨j, ps, v, rfl, hj, hpl, hpw, q⟩ := hrel
            obtain ⟨va, vl, vc, rfl⟩ := own_slice q.own
            have ho0 := q.out.cell 0 rfl
            have ho1 := q.out.cell 1 rfl
            have hf0 := q.out.free 0
            have hf1 := q.out.free 1
            have fin : ∀ wx, RIn w wx b2 b7 ty (.slice va vl vc) ps → R = none → BlkAt ((wx.setCell ⟨b2, 0, none⟩ (.string ⟨#[]⟩)).setCell ⟨b2, 1, none⟩ (.slice none 0 0)) b2 #[.string ⟨#[]⟩, .slice none 0 0] ∧ MOut w ((wx.setCell ⟨b2, 0, none⟩ (.string ⟨#[]⟩)).setCell ⟨b2, 1, none⟩ (.slice none 0 0)) (R.map fun ps => (L, ps)) (.returned (.tuple #[.agg #[.string ⟨#[]⟩, .slice none 0 0], .int .i64 70])) := by
              intro wx qx hR0
              subst hR0
              exact ⟨(qx.out.set 0 _).set 1 _, MOut.no (by rw [HB2.out]; exact (qx.bl.setCell (p := ⟨b2, 0, none⟩) (Nat.le_refl _) _).setCell (p := ⟨b2, 1, none⟩) (Nat.le_refl _) _)⟩
            have FIN := Lib.hid fin
            clear fin
            by_cases hlt2 : j < s.size
            · have hdr := nums_drop s j hlt2
              obtain ⟨c2, hc2⟩ : ∃ c2, s[j].toNat = c2 := ⟨_, rfl⟩
              have hidx2 := index_str s j hlt2 (c2 : Int) j (by rw [hc2]) rfl
              rw [hdr, hc2] at hpw
              clear hdr hc2
              by_cases h59 : (c2 : Int) = 59
              · have q4 : ((c2 : Int) != 59) = false := by simp [h59]
                rw [h59] at hpw
                have HBL3 := ref06_blanks s (j + 1)
                have hH0 := spanN_le isBl s (j + 1) hlt2
                have hH1 : j + 1 ≤ j + 1 + spanN isBl s (j + 1) := Nat.le_add_right _ _
                have hH2 := drop_span isBl s (j + 1)
                obtain ⟨H, hH⟩ : ∃ H, j + 1 + spanN isBl s (j + 1) = H := ⟨_, rfl⟩
                rw [hH] at HBL3 hH0 hH1 hH2
                rw [show ((j + 1 : Nat) : Int) = (j : Int) + 1 by omega] at HBL3
                clear hH h59
                by_cases hlt3 : H < s.size
                · have hdr3 := nums_drop s H hlt3
                  obtain ⟨d, hd⟩ : ∃ d, s[H].toNat = d := ⟨_, rfl⟩
                  have hidx3 := index_str s H hlt3 (d : Int) H (by rw [hd]) rfl
                  rw [hdr3, hd] at hH2
                  by_cases hd59 : (d : Int) = 59
                  · have q5 : ((d : Int) != 59) = false := by simp [hd59]
                    rw [hd59] at hH2
                    rw [parW_semi ps _ _ hH2.symm, ← hd59, ← hd, ← hdr3] at hpw
                    have HPW := Lib.hid hpw
                    clear hd59 hd hpw hH2 hdr3
                    go_wp2_with fail
                    refine (HBL3 _ hlt2 (by omega)).mono ?_
                    rintro e w5 ⟨rfl, rfl⟩
                    go_wp2_with fail
                    exact ⟨⟨H, ps, _, rfl, hH0, by omega, HPW.out, q⟩, by simp [intOf]; omega⟩
                  · have q5 : ((d : Int) != 59) = true := by simpa using hd59
                    have HPR := ref06_param s H
                    rw [hdr3, hd] at HPR
                    cases hR2 : parN ((d : Int) :: (nums s).drop (H + 1)) with
                    | none =>
                      rw [parW_bad ps _ _ _ hH2.symm hd59 hR2] at hpw
                      rw [hR2] at HPR
                      have HPW := Lib.hid hpw
                      clear hd59 hd hpw hH2 hdr3 hR2
                      go_wp2_with fail
                      refine (HBL3 _ hlt2 (by omega)).mono ?_
                      rintro e w5 ⟨rfl, rfl⟩
                      go_wp2_with fail
                      refine (HPR _ hlt3 (by omega)).mono ?_
                      rintro e w5 ⟨x, y, n, rfl, hb5, -⟩
                      have q6 := (q.below hb5).below ((Below.refl _ w5).alloc (Nat.le_refl _) (.cells #[.string x, .string y] 84))
                      go_upto_region 17 with (fail)
                      generalize w5.alloc (.cells #[.string x, .string y] 84) = w6 at q6 ⊢
                      have hf60 := q6.out.free 0
                      have hf61 := q6.out.free 1
                      have hc60 := q6.out.cell 0 rfl
                      have hc61 := q6.out.cell 1 rfl
                      go_wp2
                      obtain ⟨h8, h9⟩ := FIN.out _ q6 HPW.out.symm
                      refine bodyPost_ret (results_cell2 rfl _ _ _ _ _ rfl h8 Tryz.underlying47 rfl (by kernel_rfl)) rfl ?_
                      exact h9
                    | some pu =>
                      obtain ⟨⟨nm, v2⟩, u⟩ := pu
                      have hul := parN_len hR2
                      rw [parW_par ps _ _ u _ (nm, v2) hH2.symm hd59 hR2] at hpw
                      rw [hR2] at HPR
                      have hdl : ((d : Int) :: (nums s).drop (H + 1)).length = s.size - H := by
                        rw [← hd, ← hdr3, List.length_drop, nums_length]
                      rw [hdl] at hul
                      have HPW := Lib.hid hpw
                      clear hd59 hd hpw hH2 hdr3 hR2 hdl
                      go_wp2_with fail
                      refine (HBL3 _ hlt2 (by omega)).mono ?_
                      rintro e w5 ⟨rfl, rfl⟩
                      go_wp2_with fail
                      refine (HPR _ hlt3 (by omega)).mono ?_
                      rintro e w5 ⟨x, y, n, rfl, hb5, h10⟩
                      obtain ⟨hx, hy, hn0, hun⟩ := h10 nm v2 u rfl
                      have HX := Lib.hid hx
                      have HY := Lib.hid hy
                      clear hx hy h10
                      obtain ⟨b8, hbb8⟩ : ∃ b8, w5.heap.size = b8 := ⟨_, rfl⟩
                      have q6 := (q.below hb5).below ((Below.refl _ w5).alloc (Nat.le_refl _) (.cells #[.string x, .string y] 84))
                      have hp6 := BlkAt.new w5 #[.string x, .string y] 84
                      rw [hbb8] at hp6
                      go_upto_region 18 with (fail)
                      generalize w5.alloc (.cells #[.string x, .string y] 84) = w6 at q6 hp6 ⊢
                      clear hbb8
                      obtain ⟨v', w7, hr, hm7, q8⟩ := q6.app (nm, v2) x y HX.out HY.out (by omega)
                      obtain ⟨va', vl', vc', rfl⟩ := own_slice q8.own
                      have HA := Lib.hid hr
                      have hc60 := q6.med.cell 0 rfl
                      have hc61 := q6.med.cell 1 rfl
                      have hc62 := hp6.cell 0 rfl
                      have hc63 := hp6.cell 1 rfl
                      have hc70 := hm7.cell 0 rfl
                      have hc71 := hm7.cell 1 rfl
                      have hf71 := hm7.free 1
                      have HBL4 := ref06_blanks s n
                      have hJ0 := spanN_le isBl s n hn0
                      have hJ1 : n ≤ n + spanN isBl s n := Nat.le_add_right _ _
                      have hJ2 := drop_span isBl s n
                      obtain ⟨J, hJ⟩ : ∃ J, n + spanN isBl s n = J := ⟨_, rfl⟩
                      rw [hJ] at HBL4 hJ0 hJ1 hJ2
                      have hun2 : u.length = s.size - n := by rw [hun, List.length_drop, nums_length]
                      have HPX := Lib.hid (show parW (ps ++ [(nm, v2)]) ((nums s).drop J) = R by rw [hJ2, ← hun]; exact HPW.out)
                      clear hr hJ hJ2 hun
                      go_wp2_with (at_builtin; refine wpList_append_run rfl _ _ _ _ rfl _ _ rfl rfl _ _ HA.out ?_)
                      refine (HBL4 _ hn0 (by omega)).mono ?_
                      rintro e w9 ⟨rfl, rfl⟩
                      go_wp2_with fail
                      exact ⟨⟨J, ps ++ [(nm, v2)], _, rfl, hJ0, by simp; omega, HPX.out, q8⟩, by simp [intOf]; omega⟩
                · have hl3 := decide_eq_false (show ¬ (H : Int) < (s.size : Int) by omega)
                  have hdE := nums_drop_end s H (by omega)
                  rw [hdE] at hH2
                  rw [parW_end ps _ hH2.symm] at hpw
                  have HPX := Lib.hid (show parW ps ((nums s).drop H) = R by rw [hdE, parW_nil]; exact hpw)
                  clear hH2 hpw hdE
                  go_wp2_with fail
                  refine (HBL3 _ hlt2 (by omega)).mono ?_
                  rintro e w5 ⟨rfl, rfl⟩
                  go_wp2_with fail
                  exact ⟨⟨H, ps, _, rfl, hH0, by omega, HPX.out, q⟩, by simp [intOf]; omega⟩
              · have q4 : ((c2 : Int) != 59) = true := by simpa using h59
                rw [parW_no h59] at hpw
                have HPW := Lib.hid hpw
                clear h59 hpw
                go_wp2
                obtain ⟨h8, h9⟩ := FIN.out _ q HPW.out.symm
                refine bodyPost_ret (results_cell2 rfl _ _ _ _ _ rfl h8 Tryz.underlying47 rfl (by kernel_rfl)) rfl ?_
                exact h9
            · rw [nums_drop_end s j (by omega), parW_nil] at hpw
              subst hpw
              have hc0 := q.med.cell 0 rfl
              have hc1 := q.med.cell 1 rfl
              have hlt27 := q.lt
              have hne : b7 ≠ b2 := by omega
              have h8 := (q.out.set 0 (.string ty)).set 1 (.slice va vl vc)
              have h9 := (q.bl.setCell (p := ⟨b2, 0, none⟩) (Nat.le_refl _) (.string ty)).setCell (p := ⟨b2, 1, none⟩) (Nat.le_refl _) (.slice va vl vc)
              have h11 : CReads ((wr.setCell ⟨b2, 0, none⟩ (.string ty)).setCell ⟨b2, 1, none⟩ (.slice va vl vc)).heap.size ((wr.setCell ⟨b2, 0, none⟩ (.string ty)).setCell ⟨b2, 1, none⟩ (.slice va vl vc)) (.slice va vl vc) ps.length (parCells ps) := by
                refine CReads.of_own (q.own.kept (gr_set (gr_set (gr_refl wr (some b2)) 0 _) 1 _) ?_)
                cases hv : (Value.slice va vl vc).ownBlock with
                | none => exact .inl rfl
                | some k =>
                  refine .inr fun e => ?_
                  injection e with e
                  have := (q.own.lt k hv).1
                  omega
              have H8 := Lib.hid h8
              have H9 := Lib.hid h9
              have H11 := Lib.hid h11
              clear h8 h9 h11
              go_wp2
              refine bodyPost_ret (results_cell2 rfl _ _ _ _ _ rfl H8.out Tryz.underlying47 rfl (by kernel_rfl)) rfl ?_
              exact ⟨_, by rw [← HTY.out]; rfl, by rw [HB2.out]; exact H9.out, H11.out⟩
      · have q2 : ((c : Int) != 47) = true := by simpa using hc47
        rw [parseN_no3 (by rw [← hA1]; exact hD.symm) hc47]
        clear hc47 hD hX
        go_enter Tryz.func28, Tryz.ntmps28
        go_wp2_with (first | (go_at_call 60; refine (HBL _).mono ?_; rintro e w' ⟨rfl, rfl⟩) | (go_at_call 61; refine (HTK _ hA0 (by omega)).mono ?_; rintro e w' ⟨rfl, rfl⟩))
        refine bodyPost_ret (results_cell2 rfl _ _ _ _ _ rfl (BlkAt.new w _ _) Tryz.underlying47 rfl (by kernel_rfl)) rfl ?_
        exact MOut.no ((Below.refl _ w).alloc (Nat.le_refl _) _)
    · have hge := decide_eq_true (show (s.size : Int) ≤ (E : Int) by omega)
      rw [nums_drop_end s E (by omega)] at hD
      rw [parseN_no2 (by rw [← hA1]; exact hD.symm)]
      clear hD hX
      go_enter Tryz.func28, Tryz.ntmps28
      go_wp2_with (first | (go_at_call 60; refine (HBL _).mono ?_; rintro e w' ⟨rfl, rfl⟩) | (go_at_call 61; refine (HTK _ hA0 (by omega)).mono ?_; rintro e w' ⟨rfl, rfl⟩))
      refine bodyPost_ret (results_cell2 rfl _ _ _ _ _ rfl (BlkAt.new w _ _) Tryz.underlying47 rfl (by kernel_rfl)) rfl ?_
      exact MOut.no ((Below.refl _ w).alloc (Nat.le_refl _) _)
end Go.Proofs.YthahfoliblgegaaGreatDoor
