/-
  The walks of the reference's sign, within, blanks, token.
-/
import Derived.Test.YtjemlaiciacnpaaMeA
import Derived.Test.YtjemlaiciacnpaaU8C
namespace Go.Proofs.Ytjemlaiciacnpaa
open Go.RowKit
set_option maxRecDepth 100000 in
set_option maxHeartbeats 2000000 in
theorem ref06_within (c : Int) (w : World) :
    Calls Try.prog 33 #[.int .u8 c] w fun e w' => e = .returned (.bool (isQt c)) ∧ w = w' := by
  obtain ⟨q, hq⟩ : ∃ q, isQt c = q := ⟨_, rfl⟩
  have hq' := hq
  unfold isQt at hq'
  have HQ := Lib.hid hq
  clear hq
  by_cases e1 : c = 9
  · have c1 : (c == 9) = true := by simp [e1]
    have hv := HQ.out
    rw [decide_eq_true (by omega)] at hq'
    subst hq'
    clear hv e1
    go_enter Try.func33, Try.ntmps33
    go_wp2
    go_ret
    exact ⟨by rw [HQ.out]; rfl, rfl⟩
  · have c1 : (c == 9) = false := by simpa using e1
    by_cases e2 : 128 ≤ c
    · have c2 : decide (c ≤ 126) = false := decide_eq_false (by omega)
      rw [decide_eq_true (by omega)] at hq'
      subst hq'
      clear e1
      go_enter Try.func33, Try.ntmps33
      go_wp2
      go_ret
      exact ⟨by rw [HQ.out]; rfl, rfl⟩
    · have c2 : decide (128 ≤ c) = false := decide_eq_false e2
      by_cases e3 : 32 ≤ c ∧ c ≤ 126
      · by_cases e4 : c = 34
        · have c4 : (c != 34) = false := by simp [e4]
          rw [decide_eq_false (by omega)] at hq'
          subst hq'
          obtain ⟨e5, e6⟩ := e3
          clear e1 e4
          go_enter Try.func33, Try.ntmps33
          go_wp2
          go_ret
          exact ⟨by rw [HQ.out]; rfl, rfl⟩
        · have c4 : (c != 34) = true := by simpa using e4
          by_cases e7 : c = 92
          · have c7 : (c != 92) = false := by simp [e7]
            rw [decide_eq_false (by omega)] at hq'
            subst hq'
            obtain ⟨e5, e6⟩ := e3
            clear e1 e4 e7
            go_enter Try.func33, Try.ntmps33
            go_wp2
            go_ret
            exact ⟨by rw [HQ.out]; rfl, rfl⟩
          · have c7 : (c != 92) = true := by simpa using e7
            rw [decide_eq_true (by omega)] at hq'
            subst hq'
            obtain ⟨e5, e6⟩ := e3
            clear e1 e4 e7
            go_enter Try.func33, Try.ntmps33
            go_wp2
            go_ret
            exact ⟨by rw [HQ.out]; rfl, rfl⟩
      · rw [decide_eq_false (by omega)] at hq'
        subst hq'
        by_cases e5 : 32 ≤ c
        · have e6 : decide (c ≤ 126) = false := decide_eq_false (by omega)
          clear e1 e3
          go_enter Try.func33, Try.ntmps33
          go_wp2
          go_ret
          exact ⟨by rw [HQ.out]; rfl, rfl⟩
        · clear e1 e3
          go_enter Try.func33, Try.ntmps33
          go_wp2
          go_ret
          exact ⟨by rw [HQ.out]; rfl, rfl⟩
theorem signL_at (k : Nat) (h : k < 15) : ∃ y : Nat, signB[k]'(by simpa [signB, ByteArray.size] using h) = y.toUInt8 ∧ y < 256 ∧ signL[k]'(by simpa [signL] using h) = (y : Int) := by
  have : k = 0 ∨ k = 1 ∨ k = 2 ∨ k = 3 ∨ k = 4 ∨ k = 5 ∨ k = 6 ∨ k = 7 ∨ k = 8 ∨ k = 9 ∨ k = 10 ∨ k = 11 ∨ k = 12 ∨ k = 13 ∨ k = 14 := by omega
  rcases this with rfl | rfl | rfl | rfl | rfl | rfl | rfl | rfl | rfl | rfl | rfl | rfl | rfl | rfl | rfl <;> exact ⟨_, rfl, by decide, rfl⟩
theorem take_snoc_sign (k : Nat) (h : k < 15) : signL.take (k + 1) = signL.take k ++ [signL[k]'(by simpa [signL] using h)] := by
  rw [List.take_succ_eq_append_getElem]
set_option maxRecDepth 100000 in
set_option maxHeartbeats 4000000 in
theorem ref06_sign (c : Int) (w : World) :
    Calls Try.prog 36 #[.int .u8 c] w fun e w' => e = .returned (.bool (isTok c)) ∧ w = w' := by
  by_cases ha : 97 ≤ c ∧ c ≤ 122
  · have HT := Lib.hid (show isTok c = true by unfold isTok; rw [decide_eq_true ha]; rfl)
    obtain ⟨a1, a2⟩ := ha
    have p1 : decide (c ≤ 90) = false := decide_eq_false (by omega)
    go_enter Try.func36, Try.ntmps36
    go_wp2
    go_ret
    exact ⟨by rw [HT.out]; rfl, rfl⟩
  · by_cases hb : 65 ≤ c ∧ c ≤ 90
    · have HT := Lib.hid (show isTok c = true by unfold isTok; rw [decide_eq_true hb]; simp)
      obtain ⟨a1, a2⟩ := hb
      clear ha
      go_enter Try.func36, Try.ntmps36
      go_wp2
      go_ret
      exact ⟨by rw [HT.out]; rfl, rfl⟩
    · by_cases hd : 48 ≤ c ∧ c ≤ 57
      · have HT := Lib.hid (show isTok c = true by unfold isTok; rw [decide_eq_true hd]; simp)
        obtain ⟨a1, a2⟩ := hd
        have p1 : decide (65 ≤ c) = false := decide_eq_false (by omega)
        have p2 : decide (97 ≤ c) = false := decide_eq_false (by omega)
        clear ha hb
        go_enter Try.func36, Try.ntmps36
        go_wp2
        go_ret
        exact ⟨by rw [HT.out]; rfl, rfl⟩
      · have HT := Lib.hid (show isTok c = signL.contains c by unfold isTok; rw [decide_eq_false ha, decide_eq_false hb, decide_eq_false hd]; rfl)
        have hs : (c < 48) ∨ (57 < c ∧ c < 65) ∨ (90 < c ∧ c < 97) ∨ 122 < c := by omega
        clear ha hb hd
        go_enter Try.func36, Try.ntmps36
        rcases hs with hs | ⟨hs, hs2⟩ | ⟨hs, hs2⟩ | hs
        all_goals
          (try have p1 := decide_eq_true (show (65 : Int) ≤ c by omega))
          (try have p1 := decide_eq_false (show ¬ (65 : Int) ≤ c by omega))
          (try have p2 := decide_eq_true (show c ≤ (90 : Int) by omega))
          (try have p2 := decide_eq_false (show ¬ c ≤ (90 : Int) by omega))
          (try have p3 := decide_eq_true (show (97 : Int) ≤ c by omega))
          (try have p3 := decide_eq_false (show ¬ (97 : Int) ≤ c by omega))
          (try have p4 := decide_eq_true (show c ≤ (122 : Int) by omega))
          (try have p4 := decide_eq_false (show ¬ c ≤ (122 : Int) by omega))
          (try have p5 := decide_eq_true (show (48 : Int) ≤ c by omega))
          (try have p5 := decide_eq_false (show ¬ (48 : Int) ≤ c by omega))
          (try have p6 := decide_eq_true (show c ≤ (57 : Int) by omega))
          (try have p6 := decide_eq_false (show ¬ c ≤ (57 : Int) by omega))
          go_wp2
          go_loop [3] (fun i => ∃ k : Nat, i = .int .i64 k ∧ k ≤ 15 ∧ ∀ y ∈ signL.take k, y ≠ c) (fun i => 15 - (intOf i).toNat)
          case atStart => exact ⟨0, rfl, by omega, fun y hy => by simp at hy⟩
          case round =>
            obtain ⟨k, rfl, hk, hno⟩ := hrel
            by_cases hlt : k < 15
            · obtain ⟨y, g1, g2, g3⟩ := signL_at k hlt
              have hidx := index_str ⟨#[33, 35, 36, 37, 38, 39, 42, 43, 45, 46, 94, 95, 96, 124, 126]⟩ k (by simpa [ByteArray.size] using hlt) (y : Int) k (by have g4 := g1; unfold signB at g4; rw [g4]; simp; omega) rfl
              have hsn : signL.take (k + 1) = signL.take k ++ [(y : Int)] := by rw [take_snoc_sign k hlt, g3]
              by_cases hyc : (y : Int) = c
              · have HF := Lib.hid (show signL.contains c = true by rw [List.contains_iff_mem, ← hyc, ← g3]; exact List.getElem_mem _)
                have hq : ((y : Int) == c) = true := by simpa using hyc
                clear g1 g3 hsn hno hyc
                go_wp2
                go_ret
                exact ⟨by rw [HT.out, HF.out]; rfl, rfl⟩
              · have hn2 : ∀ z ∈ signL.take (k + 1), z ≠ c := by
                  intro z hz
                  rw [hsn, List.mem_append, List.mem_singleton] at hz
                  rcases hz with hz | rfl
                  · exact hno z hz
                  · exact hyc
                have HN := Lib.hid hn2
                have hq : ((y : Int) == c) = false := by simpa using hyc
                clear g1 g3 hsn hno hyc hn2
                go_wp2
                exact ⟨⟨k + 1, by go_num, by omega, HN.out⟩, by simp [intOf]; omega⟩
            · obtain rfl : k = 15 := by omega
              have HF := Lib.hid (show signL.contains c = false by
                cases hc : signL.contains c with
                | false => rfl
                | true => exact absurd rfl (hno c (List.contains_iff_mem.1 hc)))
              clear hno
              go_wp2
              go_ret
              exact ⟨by rw [HT.out, HF.out]; rfl, rfl⟩
end Go.Proofs.Ytjemlaiciacnpaa
