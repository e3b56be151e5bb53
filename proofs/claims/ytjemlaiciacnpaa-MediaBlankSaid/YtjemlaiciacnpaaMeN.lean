/-
  The walk of MediaBlank.
-/
import Derived.Test.YtjemlaiciacnpaaMeL
import Derived.Test.YtjemlaiciacnpaaMeM
namespace Go.Proofs.Ytjemlaiciacnpaa
open Go.RowKit
/-- one that was read, in the block p. -/
structure One (wr : World) (B p : Nat) (t : ByteArray) (v : Value) (qs : List (ByteArray × ByteArray)) : Prop where
  a : BlkAt wr p #[.string t, v]
  r : CReads B wr v qs.length (pairCells qs)
  sz : B ≤ wr.heap.size
theorem One.below {wr wx : World} {B p : Nat} {t : ByteArray} {v : Value} {qs : List (ByteArray × ByteArray)} (h : One wr B p t v qs) (hb : Below wr.heap.size wr wx) : One wx B p t v qs :=
  ⟨h.a.below hb h.a.lt, h.r.below hb h.sz, Nat.le_trans h.sz hb.size⟩
theorem One.new {w1 : World} {t : ByteArray} {v : Value} {qs : List (ByteArray × ByteArray)} (h : CReads w1.heap.size w1 v qs.length (pairCells qs)) (ty : TypeId) : One (w1.alloc (.cells #[.string t, v] ty)) w1.heap.size w1.heap.size t v qs :=
  ⟨BlkAt.new w1 _ _, h.below ((Below.refl _ w1).alloc (Nat.le_refl _) _) (Nat.le_refl _), by simp⟩
theorem One.reads {wr : World} {B p : Nat} {t : ByteArray} {v : Value} {qs : List (ByteArray × ByteArray)} (h : One wr B p t v qs) : CReads wr.heap.size wr v qs.length (pairCells qs) := h.r.mono h.sz
theorem size_append (x y : ByteArray) : (x ++ y).size = x.size + y.size := ByteArray.size_append
set_option maxRecDepth 100000 in
set_option maxHeartbeats 4000000 in
theorem law_MediaBlank (s : ByteArray) (n : Int) (w : World) (hs : s.size ≤ 140737488351232) : Calls Try.prog 4 #[.string s, .int .i64 n] w fun e w' => e = .returned (.bool true) ∧ Below w.heap.size w w' := by
  by_cases h3 : 2000 < s.size
  · have hd := decide_eq_true (show (2000 : Int) < (s.size : Int) by omega)
    go_enter Try.func4, Try.ntmps4
    go_wp2_with fail
    refine (law06_wakes _).mono ?_
    rintro e w1 ⟨rfl, hb⟩
    go_wp2_with fail
    go_ret
    exact ⟨rfl, hb⟩
  · have hd := decide_eq_false (show ¬ (2000 : Int) < (s.size : Int) by omega)
    have hand := i64_and7 n
    obtain ⟨m, hm⟩ : ∃ m : Nat, n % 8 = (m : Int) := ⟨(n % 8).toNat, by omega⟩
    have hm7 : m ≤ 7 := by omega
    rw [hm] at hand
    have hl := medR_len (nums s)
    rw [nums_length] at hl
    obtain ⟨R, hR⟩ : ∃ R, parseN (nums s) = R := ⟨_, rfl⟩
    rw [hR] at hl
    obtain ⟨nn, hn⟩ : ∃ n : Int, (if R.isSome then (0 : Int) else 70) = n := ⟨_, rfl⟩
    obtain ⟨t, ht⟩ : ∃ t, strOfNums (medR R).1 = t := ⟨_, rfl⟩
    obtain ⟨qs, hq⟩ : ∃ qs, pairsOf (medR R).2 = qs := ⟨_, rfl⟩
    have hqs : qs.length ≤ 1000000 := by rw [← hq, pairsOf_length]; omega
    have HP : ∀ X : ByteArray, X.size ≤ 100000 → parseN (nums X) = R → ∀ w, Calls Try.prog 8 #[.string X] w fun e w' => ∃ v, e = .returned (.tuple #[.agg #[.string t, v], .int .i64 nn]) ∧ Below w.heap.size w w' ∧ CReads w'.heap.size w' v qs.length (pairCells qs) := by
      intro X hX hXR w
      refine (media_Parse X w hX).mono ?_
      rintro e w' h
      rw [hXR] at h
      have := h.out
      rw [hn, ht, hq] at this
      exact this
    have hsm : sameB t t qs qs = true := by unfold sameB; simp
    clear hl hn ht hq hm
    have hs2 : s.size ≤ 2000 := by omega
    clear h3
    go_enter Try.func4, Try.ntmps4
    go_wp2_with fail
    go_loop [5, 6] (fun v i => ∃ (k : Nat) (b : ByteArray), i = .int .i64 k ∧ v = .string b ∧ k ≤ m ∧ b.size = k ∧ ∀ c ∈ nums b, isBl c = true) (fun _ i => m - (intOf i).toNat)
    case atStart => exact ⟨0, ⟨#[]⟩, rfl, rfl, by omega, rfl, by intro c hc; cases hc⟩
    case round =>
      obtain ⟨k, b, rfl, rfl, hk, hbk, hbb⟩ := hrel
      by_cases hlt : k < m
      · have hlt' := decide_eq_true (show (k : Int) < (m : Int) by omega)
        have hbs : ¬ 9223372036854775807 < b.size + 1 := by omega
        have key : ∀ d : UInt8, isBl (d.toNat : Int) = true → ∀ b' : ByteArray, b ++ ⟨#[d]⟩ = b' → b'.size = k + 1 ∧ ∀ c ∈ nums b', isBl c = true := by
          intro d hd2 b' hb'
          subst hb'
          refine ⟨by rw [size_append, hbk]; rfl, fun c hc => ?_⟩
          rw [nums_append, List.mem_append] at hc
          rcases hc with hc | hc
          · exact hbb c hc
          · have : c = (d.toNat : Int) := by simpa [nums] using hc
            rw [this]
            exact hd2
        have KEY := Lib.hid key
        clear key hbb
        rcases Nat.mod_two_eq_zero_or_one k with h2 | h2
        · have hand1 : bits .and .i64 (k : Int) 1 = 0 := by
            rw [show (1 : Int) = 2 ^ 1 - 1 by rfl, i64_and_mask 1 (by decide)]
            omega
          have hex : (⟨#[32, 9]⟩ : ByteArray).extract 0 1 = ⟨#[32]⟩ := by decide +kernel
          obtain ⟨b', hb'⟩ : ∃ b', b ++ ⟨#[32]⟩ = b' := ⟨_, rfl⟩
          obtain ⟨k1, k2⟩ := KEY.out 32 (by decide) b' hb'
          have K1 := Lib.hid k1
          have K2 := Lib.hid k2
          clear k1 k2 h2
          go_wp2_with fail
          exact ⟨⟨k + 1, b', by go_num, rfl, by omega, K1.out, K2.out⟩, by simp [intOf]; omega⟩
        · have hand1 : bits .and .i64 (k : Int) 1 = 1 := by
            rw [show (1 : Int) = 2 ^ 1 - 1 by rfl, i64_and_mask 1 (by decide)]
            omega
          have hex : (⟨#[32, 9]⟩ : ByteArray).extract 1 2 = ⟨#[9]⟩ := by decide +kernel
          obtain ⟨b', hb'⟩ : ∃ b', b ++ ⟨#[9]⟩ = b' := ⟨_, rfl⟩
          obtain ⟨k1, k2⟩ := KEY.out 9 (by decide) b' hb'
          have K1 := Lib.hid k1
          have K2 := Lib.hid k2
          clear k1 k2 h2
          go_wp2_with fail
          exact ⟨⟨k + 1, b', by go_num, rfl, by omega, K1.out, K2.out⟩, by simp [intOf]; omega⟩
      · have hlt' := decide_eq_false (show ¬ (k : Int) < (m : Int) by omega)
        have hb7 : b.size ≤ 7 := by omega
        have htr1 : Tr (nums b) := fun c hc => .inl (hbb c hc)
        have hsemi : Tr (59 :: nums b) := by
          intro c hc
          rcases List.mem_cons.1 hc with rfl | hc
          · exact .inr rfl
          · exact .inl (hbb c hc)
        obtain ⟨A1, hA1⟩ : ∃ A1, b ++ s = A1 := ⟨_, rfl⟩
        obtain ⟨A2, hA2⟩ : ∃ A2, A1 ++ b = A2 := ⟨_, rfl⟩
        obtain ⟨C1, hC1⟩ : ∃ C1, s ++ b = C1 := ⟨_, rfl⟩
        obtain ⟨C2, hC2⟩ : ∃ C2, C1 ++ ⟨#[59]⟩ = C2 := ⟨_, rfl⟩
        obtain ⟨C3, hC3⟩ : ∃ C3, C2 ++ b = C3 := ⟨_, rfl⟩
        obtain ⟨C4, hC4⟩ : ∃ C4, C3 ++ ⟨#[59]⟩ = C4 := ⟨_, rfl⟩
        obtain ⟨C5, hC5⟩ : ∃ C5, C4 ++ b = C5 := ⟨_, rfl⟩
        have n59 : nums (⟨#[59]⟩ : ByteArray) = [59] := rfl
        have sA1 : A1.size = b.size + s.size := by rw [← hA1, size_append]
        have sA2 : A2.size = A1.size + b.size := by rw [← hA2, size_append]
        have sC1 : C1.size = s.size + b.size := by rw [← hC1, size_append]
        have sC2 : C2.size = C1.size + 1 := by rw [← hC2, size_append]; rfl
        have sC3 : C3.size = C2.size + b.size := by rw [← hC3, size_append]
        have sC4 : C4.size = C3.size + 1 := by rw [← hC4, size_append]; rfl
        have sC5 : C5.size = C4.size + b.size := by rw [← hC5, size_append]
        have rA : parseN (nums A2) = R := by
          rw [← hA2, ← hA1, nums_append, nums_append, parseN_behind htr1, parseN_ahead _ _ hbb]
          exact hR
        have rC : parseN (nums C5) = R := by
          have h1 : nums C5 = nums s ++ (nums b ++ (59 :: nums b ++ (59 :: nums b))) := by
            rw [← hC5, ← hC4, ← hC3, ← hC2, ← hC1]
            simp only [nums_append, n59, List.append_assoc, List.cons_append, List.nil_append]
          rw [h1, parseN_behind]
          · exact hR
          · intro c hc
            rcases List.mem_append.1 hc with hc | hc
            · exact .inl (hbb c hc)
            · rcases List.mem_append.1 hc with hc | hc
              · exact hsemi c hc
              · exact hsemi c hc
        have P1 := HP s (by omega) hR
        have P2 := HP A2 (by omega) rA
        have P3 := HP C5 (by omega) rC
        have z1 : ¬ 9223372036854775807 < b.size + s.size := by omega
        have z2 : ¬ 9223372036854775807 < A1.size + b.size := by omega
        have z3 : ¬ 9223372036854775807 < s.size + b.size := by omega
        have z4 : ¬ 9223372036854775807 < C1.size + 1 := by omega
        have z5 : ¬ 9223372036854775807 < C2.size + b.size := by omega
        have z6 : ¬ 9223372036854775807 < C3.size + 1 := by omega
        have z7 : ¬ 9223372036854775807 < C4.size + b.size := by omega
        have e1 : (nn != nn) = false := by simp
        clear sA1 sA2 sC1 sC2 sC3 sC4 sC5 rA rC n59 htr1 hsemi hbb HP hbk hR
        go_wp2_with fail
        refine (P1 _).mono ?_
        rintro e w1 ⟨va, rfl, hb1, hr1⟩
        have hr0 := hr1
        obtain ⟨aa, ac, rfl, -⟩ := hr0
        have O1 := One.new (t := t) hr1 25
        have B1 := hb1.alloc hb1.size (.cells #[.string t, .slice aa qs.length ac] 25)
        obtain ⟨p1, hp1⟩ : ∃ p1, w1.heap.size = p1 := ⟨_, rfl⟩
        rw [hp1] at O1
        clear hr1 hb1
        go_wp2_with fail
        generalize w1.alloc (.cells #[.string t, .slice aa qs.length ac] 25) = w2 at O1 B1 ⊢
        refine (P2 _).mono ?_
        rintro e w3 ⟨vb, rfl, hb3, hr3⟩
        have hr0 := hr3
        obtain ⟨ba, bc, rfl, -⟩ := hr0
        have O2 := One.new (t := t) hr3 25
        have O1' := (O1.below hb3).below ((Below.refl _ w3).alloc (Nat.le_refl _) (.cells #[.string t, .slice ba qs.length bc] 25))
        have B13 := B1.trans (hb3.mono B1.size)
        have B2 := B13.alloc B13.size (.cells #[.string t, .slice ba qs.length bc] 25)
        obtain ⟨p2, hp2⟩ : ∃ p2, w3.heap.size = p2 := ⟨_, rfl⟩
        rw [hp2] at O2
        clear hr3 hb3 O1 B1 B13 hp1
        go_wp2_with fail
        generalize w3.alloc (.cells #[.string t, .slice ba qs.length bc] 25) = w4 at O1' O2 B2 ⊢
        refine (P3 _).mono ?_
        rintro e w5 ⟨vc, rfl, hb5, hr5⟩
        have hr0 := hr5
        obtain ⟨ca, cc, rfl, -⟩ := hr0
        have O3 := One.new (t := t) hr5 25
        have O1'' := (O1'.below hb5).below ((Below.refl _ w5).alloc (Nat.le_refl _) (.cells #[.string t, .slice ca qs.length cc] 25))
        have O2' := (O2.below hb5).below ((Below.refl _ w5).alloc (Nat.le_refl _) (.cells #[.string t, .slice ca qs.length cc] 25))
        have B25 := B2.trans (hb5.mono B2.size)
        have B3 := B25.alloc B25.size (.cells #[.string t, .slice ca qs.length cc] 25)
        obtain ⟨p3, hp3⟩ : ∃ p3, w5.heap.size = p3 := ⟨_, rfl⟩
        rw [hp3] at O3
        clear hr5 hb5 O1' O2 B2 B25 hp2
        have hc0 := O1''.a.cell 0 rfl
        have hc1 := O1''.a.cell 1 rfl
        have hc2 := O2'.a.cell 0 rfl
        have hc3 := O2'.a.cell 1 rfl
        go_wp2_with fail
        refine (ref06_Same _ _ _ _ _ qs qs _ O1''.reads O2'.reads (Nat.le_refl _) hqs hqs).mono ?_
        rw [hsm]
        rintro e w7 ⟨rfl, hb7'⟩
        have O1x := O1''.below hb7'
        have O3x := O3.below hb7'
        have B4 := B3.trans (hb7'.mono B3.size)
        clear hc0 hc1 hc2 hc3 O1'' O2' O3 B3 hb7' hp3
        have hc0 := O1x.a.cell 0 rfl
        have hc1 := O1x.a.cell 1 rfl
        have hc2 := O3x.a.cell 0 rfl
        have hc3 := O3x.a.cell 1 rfl
        go_wp2_with fail
        refine (ref06_Same _ _ _ _ _ qs qs _ O1x.reads O3x.reads (Nat.le_refl _) hqs hqs).mono ?_
        rw [hsm]
        rintro e w8 ⟨rfl, hb8⟩
        have B5 := B4.trans (hb8.mono B4.size)
        clear hc0 hc1 hc2 hc3 O1x O3x B4 hb8
        go_wp2_with fail
        refine (law06_wakes _).mono ?_
        rintro e w9 ⟨rfl, hb9⟩
        go_wp2_with fail
        go_ret
        exact ⟨rfl, B5.trans (hb9.mono B5.size)⟩
end Go.Proofs.Ytjemlaiciacnpaa
