/-
  Layer 6: the walk of media's Same.
-/
import Derived.Test.YtjemlaiciacnpaaMeK
namespace Go.Proofs.Ytjemlaiciacnpaa
open Go.RowKit
set_option maxRecDepth 100000 in
set_option maxHeartbeats 2000000 in
theorem media_Same (B : Nat) (t u : ByteArray) (v x : Value) (qs rs : List (ByteArray × ByteArray)) (w : World) (hr : CReads B w v qs.length (pairCells qs)) (hr2 : CReads B w x rs.length (pairCells rs)) (hB : B ≤ w.heap.size) (hn : qs.length ≤ 1000000) (hn2 : rs.length ≤ 1000000) :
    Calls Try.prog 20 #[.agg #[.string t, v], .agg #[.string u, x]] w fun e w' => e = .returned (.bool (sameB t u qs rs)) ∧ Below w.heap.size w w' := by
  have hr0 := hr
  have hr20 := hr2
  obtain ⟨a, cap, rfl, -⟩ := hr0
  obtain ⟨a2, cap2, rfl, -⟩ := hr20
  obtain ⟨R, hR⟩ : ∃ R, sameB t u qs rs = R := ⟨_, rfl⟩
  rw [hR]
  by_cases ht : t = u
  · subst ht
    obtain ⟨n, hnq⟩ : ∃ n, qs.length = n := ⟨_, rfl⟩
    obtain ⟨m, hnr⟩ : ∃ m, rs.length = m := ⟨_, rfl⟩
    rw [hnq] at hr hn ⊢
    rw [hnr] at hr2 hn2 ⊢
    have q1 : (t.toList == t.toList) = true := by simp
    by_cases hl : n = m
    · subst hl
      have hR2 : decide (qs.drop 0 = rs.drop 0) = R := by rw [← hR]; unfold sameB; simp
      have HR := Lib.hid hR2
      have q2 : ((n : Int) == (n : Int)) = true := by simp
      have hb := ((Below.refl w.heap.size w).alloc (Nat.le_refl _) (.cells #[.string t, .slice a n cap] 25)).alloc (by simp) (.cells #[.string t, .slice a2 n cap2] 25)
      have hn1 := (BlkAt.new w #[.string t, .slice a n cap] 25).alloc (.cells #[.string t, .slice a2 n cap2] 25)
      have hn3 := BlkAt.new (w.alloc (.cells #[.string t, .slice a n cap] 25)) #[.string t, .slice a2 n cap2] 25
      rw [show (w.alloc (.cells #[.string t, .slice a n cap] 25)).heap.size = w.heap.size + 1 by simp] at hn3
      clear hR hR2
      go_enter Try.func20, Try.ntmps20
      go_wp2_with fail
      generalize (w.alloc (.cells #[.string t, .slice a n cap] 25)).alloc (.cells #[.string t, .slice a2 n cap2] 25) = w1 at hb hn1 hn3 ⊢
      go_loopw [24] (fun i wr => ∃ k : Nat, i = .int .i64 k ∧ k ≤ n ∧ decide (qs.drop k = rs.drop k) = R ∧ BlkAt wr w.heap.size #[.string t, .slice a n cap] ∧ BlkAt wr (w.heap.size + 1) #[.string t, .slice a2 n cap2] ∧ Below w.heap.size w wr) (fun i _ => n - (intOf i).toNat)
      case atStart => exact ⟨0, rfl, by omega, HR.out, hn1, hn3, hb⟩
      case round =>
        obtain ⟨k, rfl, hk, hch, hm1, hm3, hbw⟩ := hrel
        have hcc := hm1.cell 1 rfl
        have hcd := hm3.cell 1 rfl
        by_cases hlt : k < n
        · obtain ⟨b, off, cap', x1, x2, hv, -, hdr, hw0, hw1⟩ := hr.pair hbw hB k (by omega)
          cases hv
          obtain ⟨b', off', cap', y1, y2, hv2, hq2, hdr2, hy0, hy1⟩ := hr2.pair hbw hB k (by omega)
          cases hv2
          have hal := hbw.alloc hbw.size (.cells #[.string x1, .string x2] 47)
          have hm1a := hm1.alloc (.cells #[.string x1, .string x2] 47)
          have hm3a := hm3.alloc (.cells #[.string x1, .string x2] 47)
          have hce := hm3a.cell 1 rfl
          obtain ⟨b'', off'', cap'', z1, z2, hv3, hq3, -, hz0, hz1⟩ := hr2.pair hal hB k (by omega)
          cases hv3
          rw [hq2] at hq3
          cases hq3
          clear hq2
          rw [hdr, hdr2] at hch
          by_cases he : x1 = y1 ∧ x2 = y2
          · obtain ⟨rfl, rfl⟩ := he
            have HC := Lib.hid hch
            clear hch hdr hdr2 hr hr2 hn1 hn3
            go_wp2_with fail
            go_quiet (fail)
            go_wp2_with fail
            exact ⟨⟨k + 1, by go_num, by omega, by rw [← HC.out]; simp, hm1a, hm3a, below_dn hal _⟩, by simp [intOf]; omega⟩
          · have hRf : R = false := by
              rw [← hch]
              refine decide_eq_false fun e => he ?_
              injection e with e1 e2
              injection e1 with e3 e4
              exact ⟨e3, e4⟩
            subst hRf
            by_cases h1 : x1 = y1
            · subst h1
              have h2 := toList_ne (show x2 ≠ y2 from fun e => he ⟨rfl, e⟩)
              have h3 : (x1.toList == x1.toList) = true := by simp
              clear hch hdr hdr2 hr hr2 hn1 hn3 he HR
              go_wp2_with fail
              go_quiet (fail)
              go_wp2_with fail
              go_ret
              exact ⟨rfl, below_dn hal _⟩
            · have h2 := toList_ne h1
              clear hch hdr hdr2 hr hr2 hn1 hn3 he h1 HR
              go_wp2_with fail
              go_quiet (fail)
              go_wp2_with fail
              go_ret
              exact ⟨rfl, below_dn hal _⟩
        · rw [List.drop_eq_nil_of_le (by omega), List.drop_eq_nil_of_le (by omega)] at hch
          have HC := Lib.hid hch
          clear hch hr hr2 hn1 hn3 HR
          go_wp2_with fail
          go_ret
          exact ⟨by rw [← HC.out]; rfl, hbw⟩
    · have q2 : ((n : Int) == (m : Int)) = false := by simp; omega
      have hRf : R = false := by
        rw [← hR]
        refine decide_eq_false fun e => hl ?_
        rw [← hnq, ← hnr, e.2]
      subst hRf
      have hb := ((Below.refl w.heap.size w).alloc (Nat.le_refl _) (.cells #[.string t, .slice a n cap] 25)).alloc (by simp) (.cells #[.string t, .slice a2 m cap2] 25)
      clear hR hr hr2
      go_enter Try.func20, Try.ntmps20
      go_wp2_with fail
      go_ret
      exact ⟨rfl, hb⟩
  · have q1 := toList_ne ht
    have hRf : R = false := by
      rw [← hR]
      exact decide_eq_false fun e => ht e.1
    subst hRf
    have hb := ((Below.refl w.heap.size w).alloc (Nat.le_refl _) (.cells #[.string t, .slice a qs.length cap] 25)).alloc (by simp) (.cells #[.string u, .slice a2 rs.length cap2] 25)
    clear hR hr hr2 ht
    go_enter Try.func20, Try.ntmps20
    go_wp2_with fail
    go_ret
    exact ⟨rfl, hb⟩
end Go.Proofs.Ytjemlaiciacnpaa
