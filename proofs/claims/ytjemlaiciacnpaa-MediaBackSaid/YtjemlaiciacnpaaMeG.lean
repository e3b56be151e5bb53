/-
  The walk of a quoted text in media's scanner; a parameter's value.
-/
import Derived.Test.YtjemlaiciacnpaaMeF
import Derived.Deep.RegionWith
import Derived.WalkMore
namespace Go.Proofs.Ytjemlaiciacnpaa
open Go.RowKit
theorem gr_under {a w w' : World} {row : Option Nat} (h : a.grownBy w row) (hb : Below a.heap.size w w') : a.grownBy w' row :=
  ⟨hb.os.trans h.os, hb.tape.trans h.tape, hb.output.trans h.output, Nat.le_trans h.size hb.size, fun b hb' hne => (hb.block b hb').trans (h.block b hb' hne)⟩
/-- within a quoted text: the scanner p is at j, the row v holds acc, nothing else is changed. -/
structure QIn (w wr : World) (p : Nat) (s : ByteArray) (j : Nat) (acc : List Int) (v : Value) : Prop where
  sc : ScanAt wr p s j
  own : wr.ownsRow w.heap.size 5 1 v acc.length (acc.map (Value.int .u8))
  gr : w.grownBy wr (some p)
  lt : p < w.heap.size
theorem QIn.dn {w wr : World} {p : Nat} {s : ByteArray} {j : Nat} {acc : List Int} {v : Value} (q : QIn w wr p s j acc v) (n : Nat) : QIn w (wr.drewN n) p s j acc v :=
  ⟨q.sc.drewN n, q.own, gr_dn q.gr n, q.lt⟩
theorem QIn.far {w wr wx : World} {p : Nat} {s : ByteArray} {j : Nat} {acc : List Int} {v : Value} (q : QIn w wr p s j acc v) (h : wr.grownBy wx (some p)) : wx.ownsRow w.heap.size 5 1 v acc.length (acc.map (Value.int .u8)) := by
  refine q.own.kept h ?_
  cases hv : v.ownBlock with
  | none => exact .inl rfl
  | some k =>
    refine .inr fun e => ?_
    injection e with e
    have := (q.own.lt k hv).1
    have := q.lt
    omega
theorem QIn.step {w wr : World} {p : Nat} {s : ByteArray} {j : Nat} {acc : List Int} {v : Value} (q : QIn w wr p s j acc v) (j' : Nat) : QIn w (wr.setCell ⟨p, 1, none⟩ (.int .i64 j')) p s j' acc v :=
  ⟨q.sc.step j', q.far (gr_set (gr_refl _ _) 1 _), gr_set q.gr 1 _, q.lt⟩
theorem QIn.app {w wr : World} {p : Nat} {s : ByteArray} {j : Nat} {acc : List Int} {v : Value} (q : QIn w wr p s j acc v) (x : Int) (hn : acc.length < 1099511627776) :
    ∃ v' w', (Builtin.append_ #[52, 52] 52 #[v, .slice (some ⟨wr.heap.size, 0, none⟩) 1 1]).run Try.prog (wr.alloc (.cells #[.int .u8 x] 5)) = .ok v' w' ∧ QIn w w' p s j (acc ++ [x]) v' := by
  obtain ⟨v', w', h1, h2, h3, _⟩ := app_u8 wr w.heap.size v acc.length acc q.own x hn q.gr.size
  exact ⟨v', w', h1, q.sc.below h3 q.lt, by simpa using h2, gr_under q.gr h3, q.lt⟩
/-- what a quoted text comes to. -/
def QOut (w w' : World) (p : Nat) (s : ByteArray) (R : Option (List Int × List Int)) (e : Ending) : Prop :=
  ∃ (t : ByteArray) (j : Nat), e = .returned (.tuple #[.string t, .bool R.isSome]) ∧ ScanAt w' p s j ∧ j ≤ s.size ∧ w.grownBy w' (some p) ∧ (∀ v r, R = some (v, r) → t = strOfNums v ∧ r = (nums s).drop j)
theorem kinds_esc (c : Nat) (h : c < 256) : (bits .and .i64 (kindsN (c : Nat)) 8 == 0) = !isEsc (c : Nat) := by
  have := (kinds_and c h).2.2.2
  rw [← this, bne, Bool.not_not]
theorem kinds_qt (c : Nat) (h : c < 256) : (bits .and .i64 (kindsN (c : Nat)) 4 == 0) = !isQt (c : Nat) := by
  have := (kinds_and c h).2.2.1
  rw [← this, bne, Bool.not_not]
theorem gr_dr {a w : World} {row : Option Nat} (h : a.grownBy w row) : a.grownBy w.drew row := ⟨h.os, h.tape, h.output, h.size, h.block⟩
theorem quoted_end {w wr : World} {p : Nat} {s : ByteArray} {j : Nat} {acc : List Int} {v : Value} (q : QIn w wr p s j acc v) (hj : j ≤ s.size) (hs : s.size ≤ 1000000) (b : Bool) (hb : atB s j 34 = b) :
    Calls Try.prog 23 #[.pointer (some ⟨p, 0, none⟩), .int .u8 34] wr.drew fun e wx => e = .returned (.bool b) ∧ ScanAt wx p s (if b then j + 1 else j) ∧ w.grownBy wx (some p) ∧
      (convert 52 9 v).run Try.prog wx = .ok (.string (strOfNums acc)) wx := by
  have h0 : ScanAt wr.drew p s j := q.sc
  subst hb
  refine (scan_is 34 p s j _ h0 hj (by omega)).mono ?_
  rintro e wx ⟨rfl, h1, h2⟩
  have h3 := gr_trans (gr_dr (gr_refl wr (some p))) h2
  exact ⟨rfl, h1, gr_trans q.gr h3, conv_own _ _ _ _ _ (q.far h3)⟩
set_option maxRecDepth 100000 in
set_option maxHeartbeats 8000000 in
theorem scan_quoted (p : Nat) (s : ByteArray) (k : Nat) (w : World) (hsc : ScanAt w p s k) (hk0 : k ≤ s.size) (hs : s.size ≤ 1000000) :
    Calls Try.prog 35 #[.pointer (some ⟨p, 0, none⟩)] w fun e w' => QOut w w' p s (quoA [] ((nums s).drop k)) e := by
  obtain ⟨R, hR⟩ : ∃ R, quoA [] ((nums s).drop k) = R := ⟨_, rfl⟩
  rw [hR]
  have HR := Lib.hid hR
  clear hR
  have hp := hsc.place
  go_enter Try.func35, Try.ntmps35
  go_wp2
  go_step3
  go_wp2
  go_step3
  go_wp2_with fail
  go_loopw [4] (fun v wr => ∃ (j : Nat) (acc : List Int), j ≤ s.size ∧ acc.length ≤ j ∧ quoA acc ((nums s).drop j) = R ∧ QIn w wr p s j acc v) (fun _ wr => s.size - placeOf wr p)
  case atStart => exact ⟨k, [], hk0, by simp, HR.out, hsc, World.ownsRow_nil _ _ _ _, gr_refl _ _, hsc.lt⟩
  case round =>
    obtain ⟨j, acc, hj, hacc, hq, q⟩ := hrel
    have hpl := placeOf_at q.sc
    have ht := q.sc.text
    have hp := q.sc.place
    by_cases hlt : j < s.size
    · have hd : decide ((j : Int) < (s.size : Int)) = true := decide_eq_true (by omega)
      have hdr := nums_drop s j hlt
      obtain ⟨c, hc⟩ : ∃ c, s[j].toNat = c := ⟨_, rfl⟩
      have hc256 : c < 256 := by rw [← hc]; exact byte256 s j hlt
      have hidx := index_str s j hlt (c : Int) j (by rw [hc]) rfl
      have hat := atB_lt hlt 34
      rw [hdr, hc] at hq
      rw [hc] at hat
      clear hdr hc
      go_wp2_with fail
      go_quiet (fail)
      have q2 := q.dn nq
      generalize wr.drewN nq = w2 at q2 ⊢
      have ht2 := q2.sc.text
      have hp2 := q2.sc.place
      go_wp2_with fail
      go_quiet (fail)
      have q3 := q2.dn nq
      generalize w2.drewN nq = w3 at q3 ⊢
      have ht3 := q3.sc.text
      have hp3 := q3.sc.place
      have hf3 := q3.sc.free
      clear ht hp ht2 hp2 hd
      by_cases e1 : (c : Int) = 34
      · have q1 : ((c : Int) == 34) = true := by simpa using e1
        have HAT := Lib.hid (hat.trans q1)
        rw [e1, quoA_quote] at hq
        have HQ := Lib.hid hq
        have hcv := conv_own w3.drew w.heap.size u4 acc.length acc q3.own
        clear hq e1 hat
        go_wp2_with fail
        go_region_with ((go_at_call 23; refine (quoted_end q3 hj hs true HAT.out).mono ?_; rintro e wx ⟨rfl, h1, h2, hcv2⟩))
        all_goals
          rw [if_pos trivial] at h1
          go_wp2
          try rw [Exit.noGoto_ret]
          go_ret2
          rw [← HQ.out]
          exact ⟨_, j + 1, rfl, h1, by omega, h2, by rintro v r e; cases e; exact ⟨rfl, rfl⟩⟩
      · have q1 : ((c : Int) == 34) = false := by simpa using e1
        clear hat
        by_cases e2 : (c : Int) = 92
        · have q2' : ((c : Int) == 92) = true := by simpa using e2
          rw [e2] at hq
          clear e1 e2
          go_wp2_with fail
          have q4 := q3.step (j + 1)
          rw [show (((j + 1 : Nat)) : Int) = (j : Int) + 1 by omega] at q4
          generalize w3.setCell ⟨p, 1, none⟩ (.int .i64 ((j : Int) + 1)) = w4 at q4 ⊢
          have ht4 := q4.sc.text
          have hp4 := q4.sc.place
          rw [show (((j + 1 : Nat)) : Int) = (j : Int) + 1 by omega] at hp4
          clear ht3 hp3 hf3
          by_cases hl2 : j + 1 < s.size
          · have hdr2 := nums_drop s (j + 1) hl2
            obtain ⟨d, hd⟩ : ∃ d, s[j + 1].toNat = d := ⟨_, rfl⟩
            have hd256 : d < 256 := by rw [← hd]; exact byte256 s (j + 1) hl2
            have hidx2 := index_str s (j + 1) hl2 (d : Int) ((j : Int) + 1) (by rw [hd]) (by omega)
            rw [hdr2, hd] at hq
            clear hdr2 hd
            have hge : (((j : Int) + 1) == (s.size : Int)) = false := by simp; omega
            obtain ⟨n, hn⟩ : ∃ n, kindsN (d : Int) = n := ⟨_, rfl⟩
            obtain ⟨m, hm⟩ : ∃ m, bits .and .i64 n 8 = m := ⟨_, rfl⟩
            have hmz := kinds_esc d hd256
            rw [hn, hm] at hmz
            have HN := Lib.hid hn
            cases he : isEsc (d : Int) with
            | false =>
              rw [he] at hmz
              rw [quoA_esc_no he] at hq
              have HQ := Lib.hid hq
              clear he hn hq
              go_quiet ((go_at_call 40; exact Calls.quiet_of_same (kinds_quiet d hd256 n HN.out _)))
              clear hmz hm
              go_wp2
              try rw [Exit.noGoto_ret]
              go_ret2
              rw [← HQ.out]
              exact ⟨_, j + 1, rfl, q4.sc, by omega, gr_dn q4.gr _, by rintro v r e; cases e⟩
            | true =>
              rw [he] at hmz
              rw [quoA_esc he] at hq
              have HQ := Lib.hid hq
              clear he hn hq
              go_quiet ((go_at_call 40; exact Calls.quiet_of_same (kinds_quiet d hd256 n HN.out _)))
              clear hmz hm
              have q5 := q4.dn nq
              generalize w4.drewN nq = w5 at q5 ⊢
              have ht5 := q5.sc.text
              have hp5 := q5.sc.place
              rw [show (((j + 1 : Nat)) : Int) = (j : Int) + 1 by omega] at hp5
              clear ht4 hp4
              go_wp2_with fail
              go_quiet (fail)
              have q6 := q5.dn nq
              generalize w5.drewN nq = w6 at q6 ⊢
              clear ht5 hp5
              obtain ⟨v', w7, hr, q7⟩ := q6.app d (by omega)
              have HA := Lib.hid hr
              clear hr
              have hp7 := q7.sc.place
              have hf7 := q7.sc.free
              rw [show (((j + 1 : Nat)) : Int) = (j : Int) + 1 by omega] at hp7
              have q8 := q7.step (j + 1 + 1)
              have hpl8 := placeOf_at q8.sc
              rw [show (((j + 1 + 1 : Nat)) : Int) = (j : Int) + 2 by omega] at q8 hpl8
              go_wp2_with (at_builtin; refine wpList_append_run rfl _ _ _ _ rfl _ _ rfl rfl _ _ HA.out ?_)
              try rw [show (j : Int) + 1 + 1 = (j : Int) + 2 by omega]
              exact ⟨⟨j + 1 + 1, acc ++ [(d : Int)], by omega, by simp; omega, HQ.out, q8⟩, by rw [hpl, hpl8]; omega⟩
          · have hge : (((j : Int) + 1) == (s.size : Int)) = true := by simp; omega
            rw [nums_drop_end s (j + 1) (by omega), quoA_esc_end] at hq
            have HQ := Lib.hid hq
            clear hq
            go_quiet (fail)
            go_wp2
            try rw [Exit.noGoto_ret]
            go_ret2
            rw [← HQ.out]
            exact ⟨_, j + 1, rfl, q4.sc, by omega, gr_dn q4.gr _, by rintro v r e; cases e⟩
        · have q2' : ((c : Int) == 92) = false := by simpa using e2
          obtain ⟨n, hn⟩ : ∃ n, kindsN (c : Int) = n := ⟨_, rfl⟩
          obtain ⟨m, hm⟩ : ∃ m, bits .and .i64 n 4 = m := ⟨_, rfl⟩
          have hmz := kinds_qt c hc256
          rw [hn, hm] at hmz
          have HN := Lib.hid hn
          cases hi : isQt (c : Int) with
          | false =>
            rw [hi] at hmz
            rw [quoA_out hi e1 e2] at hq
            have HQ := Lib.hid hq
            clear hi hq hn e1 e2
            go_wp2_with (go_at_call 40; refine (kinds_quiet c hc256 n HN.out _).mono ?_; rintro e w' ⟨rfl, rfl⟩)
            try rw [Exit.noGoto_ret]
            go_ret2
            rw [← HQ.out]
            exact ⟨_, j, rfl, q3.sc, by omega, q3.gr, by rintro v r e; cases e⟩
          | true =>
            rw [hi] at hmz
            rw [quoA_in hi] at hq
            have HQ := Lib.hid hq
            clear hi hq hn e1 e2
            obtain ⟨v', w7, hr, q7⟩ := q3.app c (by omega)
            have HA := Lib.hid hr
            clear hr
            have hp7 := q7.sc.place
            have hf7 := q7.sc.free
            have q8 := q7.step (j + 1)
            have hpl8 := placeOf_at q8.sc
            rw [show (((j + 1 : Nat)) : Int) = (j : Int) + 1 by omega] at q8 hpl8
            go_wp2_with (first | (at_builtin; refine wpList_append_run rfl _ _ _ _ rfl _ _ rfl rfl _ _ HA.out ?_) | (go_at_call 40; refine (kinds_quiet c hc256 n HN.out _).mono ?_; rintro e w' ⟨rfl, rfl⟩))
            exact ⟨⟨j + 1, acc ++ [(c : Int)], by omega, by simp; omega, HQ.out, q8⟩, by rw [hpl, hpl8]; omega⟩
    · have hd : decide ((j : Int) < (s.size : Int)) = false := decide_eq_false (by omega)
      rw [nums_drop_end s j (by omega), quoA_nil] at hq
      have HQ := Lib.hid hq
      have HAT := Lib.hid (atB_end (s := s) (k := j) (by omega) 34)
      clear hq
      go_wp2_with fail
      go_quiet (fail)
      have q2 := q.dn nq
      generalize wr.drewN nq = w2 at q2 ⊢
      have hcv := conv_own w2.drew w.heap.size u4 acc.length acc q2.own
      clear ht hp
      go_wp2_with fail
      go_region_with ((go_at_call 23; refine (quoted_end q2 hj hs false HAT.out).mono ?_; rintro e wx ⟨rfl, h1, h2, hcv2⟩))
      all_goals
        rw [if_neg (by decide)] at h1
        go_wp2
        try rw [Exit.noGoto_ret]
        go_ret2
        rw [← HQ.out]
        exact ⟨_, j, rfl, h1, by omega, h2, by rintro v r e; cases e⟩
end Go.Proofs.Ytjemlaiciacnpaa
