/-
  UTF-8 in plain terms: a right piece is what its scalar makes, and the other way round. No program in sight.
-/
import Derived.Test.YtkdkoondchbekaaU8Q
namespace Go.Proofs.Ytkdkoondchbekaa
theorem isSc_iff (r : Int) : isSc r = true ↔ 0 ≤ r ∧ r ≤ 1114111 ∧ (r < 55296 ∨ 57343 < r) := by unfold isSc; exact decide_eq_true_iff
theorem fMore_0 {c : Int} (h : c < 128) : fMore c = 0 := if_pos h
theorem fMore_bad {c : Int} (h : 128 ≤ c) (h' : c < 194 ∨ 244 < c) : fMore c = -1 := by unfold fMore; rw [if_neg (by omega), if_pos h']
theorem fMore_1 {c : Int} (h : 194 ≤ c) (h' : c < 224) : fMore c = 1 := by unfold fMore; rw [if_neg (by omega), if_neg (by omega), if_pos h']
theorem fMore_2 {c : Int} (h : 224 ≤ c) (h' : c < 240) : fMore c = 2 := by unfold fMore; rw [if_neg (by omega), if_neg (by omega), if_neg (by omega), if_pos h']
theorem fMore_3 {c : Int} (h : 240 ≤ c) (h' : c ≤ 244) : fMore c = 3 := by unfold fMore; rw [if_neg (by omega), if_neg (by omega), if_neg (by omega), if_neg (by omega)]
theorem fBits_0' {c : Int} (h : c < 128) : fBits c = c := if_pos h
theorem fBits_1' {c : Int} (h : 194 ≤ c) (h' : c < 224) : fBits c = c % 32 := by unfold fBits; rw [if_neg (by omega), if_neg (by omega), if_pos h']
theorem fBits_2' {c : Int} (h : 224 ≤ c) (h' : c < 240) : fBits c = c % 16 := by unfold fBits; rw [if_neg (by omega), if_neg (by omega), if_neg (by omega), if_pos h']
theorem fBits_3' {c : Int} (h : 240 ≤ c) (h' : c ≤ 244) : fBits c = c % 8 := by unfold fBits; rw [if_neg (by omega), if_neg (by omega), if_neg (by omega), if_neg (by omega)]
theorem fFrom_def (c : Int) : (c = 224 → fFrom c = 160) ∧ (c = 240 → fFrom c = 144) ∧ (c ≠ 224 → c ≠ 240 → fFrom c = 128) := by
  unfold fFrom; refine ⟨fun h => if_pos h, fun h => ?_, fun h h' => ?_⟩
  · rw [if_neg (by omega), if_pos h]
  · rw [if_neg h, if_neg h']
theorem fTo_def (c : Int) : (c = 237 → fTo c = 159) ∧ (c = 244 → fTo c = 143) ∧ (c ≠ 237 → c ≠ 244 → fTo c = 191) := by
  unfold fTo; refine ⟨fun h => if_pos h, fun h => ?_, fun h h' => ?_⟩
  · rw [if_neg (by omega), if_pos h]
  · rw [if_neg h, if_neg h']
theorem encN_a {r : Int} (h0 : 0 ≤ r) (h : r < 128) : encN r = [r] := by
  unfold encN; rw [if_neg (by rw [(isSc_iff r).2 (by omega)]; decide), if_pos h]
theorem encN_b {r : Int} (h1 : 128 ≤ r) (h2 : r < 2048) : encN r = [192 + r / 64, 128 + r % 64] := by
  unfold encN; rw [if_neg (by rw [(isSc_iff r).2 (by omega)]; decide), if_neg (by omega), if_pos h2]
theorem encN_c {r : Int} (h1 : 2048 ≤ r) (h2 : r < 65536) (h3 : r < 55296 ∨ 57343 < r) : encN r = [224 + r / 64 / 64, 128 + r / 64 % 64, 128 + r % 64] := by
  unfold encN; rw [if_neg (by rw [(isSc_iff r).2 (by omega)]; decide), if_neg (by omega), if_neg (by omega), if_pos h2]
theorem encN_d {r : Int} (h1 : 65536 ≤ r) (h2 : r ≤ 1114111) : encN r = [240 + r / 64 / 64 / 64, 128 + r / 64 / 64 % 64, 128 + r / 64 % 64, 128 + r % 64] := by
  unfold encN; rw [if_neg (by rw [(isSc_iff r).2 (by omega)]; decide), if_neg (by omega), if_neg (by omega), if_neg (by omega)]
theorem encN_none {r : Int} (h : isSc r = false) : encN r = [] := if_pos h
/-- a right piece is what its scalar makes. -/
theorem piece_enc (l : List Int) (hb : isBs l) (h0 : 0 ≤ (piece l).1) : isSc (piece l).1 = true ∧ encN (piece l).1 = l.take (piece l).2 := by
  cases l with
  | nil => simp [piece] at h0
  | cons c t =>
    have hc := hb c (by simp)
    rw [piece] at h0 ⊢
    have hf := fFrom_def c
    have ht := fTo_def c
    by_cases c0 : c < 128
    · rw [fMore_0 c0, fBits_0' c0] at *
      rw [if_neg (by omega)] at h0 ⊢
      simp only [Int.toNat_zero, conts] at h0 ⊢
      exact ⟨(isSc_iff c).2 (by omega), by rw [encN_a (by omega) c0]; rfl⟩
    · by_cases c1 : c < 194 ∨ 244 < c
      · rw [fMore_bad (by omega) c1] at h0
        simp at h0
      · by_cases c2 : c < 224
        · rw [fMore_1 (by omega) c2, fBits_1' (by omega) c2] at *
          rw [if_neg (by omega)] at h0 ⊢
          rw [show (1 : Int).toNat = 0 + 1 from rfl] at h0 ⊢
          cases t with
          | nil => simp [conts] at h0
          | cons d t =>
            rw [conts] at h0 ⊢
            by_cases w1 : d < fFrom c ∨ fTo c < d
            · rw [if_pos w1] at h0; simp at h0
            · rw [if_neg w1] at h0 ⊢
              rw [conts] at h0 ⊢
              refine ⟨(isSc_iff _).2 (by omega), ?_⟩
              rw [encN_b (by omega) (by omega)]
              show [_, _] = [c, d]
              simp only [List.cons.injEq, and_true]
              omega
        · by_cases c3 : c < 240
          · rw [fMore_2 (by omega) c3, fBits_2' (by omega) c3] at *
            rw [if_neg (by omega)] at h0 ⊢
            rw [show (2 : Int).toNat = 1 + 1 from rfl] at h0 ⊢
            cases t with
            | nil => simp [conts] at h0
            | cons d t =>
              rw [conts] at h0 ⊢
              by_cases w1 : d < fFrom c ∨ fTo c < d
              · rw [if_pos w1] at h0; simp at h0
              · rw [if_neg w1] at h0 ⊢
                rw [show 1 = 0 + 1 from rfl] at h0 ⊢
                cases t with
                | nil => simp [conts] at h0
                | cons e t =>
                  rw [conts] at h0 ⊢
                  by_cases w2 : e < 128 ∨ 191 < e
                  · rw [if_pos w2] at h0; simp at h0
                  · rw [if_neg w2] at h0 ⊢
                    rw [conts] at h0 ⊢
                    refine ⟨(isSc_iff _).2 (by omega), ?_⟩
                    rw [encN_c (by omega) (by omega) (by omega)]
                    show [_, _, _] = [c, d, e]
                    simp only [List.cons.injEq, and_true]
                    omega
          · rw [fMore_3 (by omega) (by omega), fBits_3' (by omega) (by omega)] at *
            rw [if_neg (by omega)] at h0 ⊢
            rw [show (3 : Int).toNat = 2 + 1 from rfl] at h0 ⊢
            cases t with
            | nil => simp [conts] at h0
            | cons d t =>
              rw [conts] at h0 ⊢
              by_cases w1 : d < fFrom c ∨ fTo c < d
              · rw [if_pos w1] at h0; simp at h0
              · rw [if_neg w1] at h0 ⊢
                rw [show 2 = 1 + 1 from rfl] at h0 ⊢
                cases t with
                | nil => simp [conts] at h0
                | cons e t =>
                  rw [conts] at h0 ⊢
                  by_cases w2 : e < 128 ∨ 191 < e
                  · rw [if_pos w2] at h0; simp at h0
                  · rw [if_neg w2] at h0 ⊢
                    cases t with
                    | nil => simp [conts] at h0
                    | cons f t =>
                      rw [conts] at h0 ⊢
                      by_cases w3 : f < 128 ∨ 191 < f
                      · rw [if_pos w3] at h0; simp at h0
                      · rw [if_neg w3] at h0 ⊢
                        rw [conts] at h0 ⊢
                        refine ⟨(isSc_iff _).2 (by omega), ?_⟩
                        rw [encN_d (by omega) (by omega)]
                        show [_, _, _, _] = [c, d, e, f]
                        simp only [List.cons.injEq, and_true]
                        omega
/-- what a scalar makes is read as it, whatever stands behind. -/
theorem piece_of_enc (r : Int) (h : isSc r = true) (t : List Int) : piece (encN r ++ t) = (r, (encN r).length) := by
  have hr := (isSc_iff r).1 h
  by_cases r0 : r < 128
  · rw [encN_a (by omega) r0]
    show piece (r :: t) = _
    rw [piece, fMore_0 r0, fBits_0' r0, if_neg (by omega)]
    rfl
  · by_cases r1 : r < 2048
    · rw [encN_b (by omega) r1]
      show piece (_ :: _ :: t) = _
      have hf := fFrom_def (192 + r / 64)
      have ht := fTo_def (192 + r / 64)
      rw [piece, fMore_1 (by omega) (by omega), fBits_1' (by omega) (by omega), if_neg (by omega), show (1 : Int).toNat = 0 + 1 from rfl, conts, if_neg (by omega), conts]
      simp only [List.length_cons, List.length_nil, Prod.mk.injEq, and_true]
      omega
    · by_cases r2 : r < 65536
      · rw [encN_c (by omega) r2 (by omega)]
        show piece (_ :: _ :: _ :: t) = _
        have hf := fFrom_def (224 + r / 64 / 64)
        have ht := fTo_def (224 + r / 64 / 64)
        rw [piece, fMore_2 (by omega) (by omega), fBits_2' (by omega) (by omega), if_neg (by omega), show (2 : Int).toNat = 1 + 1 from rfl, conts, if_neg (by omega), conts, if_neg (by omega), conts]
        simp only [List.length_cons, List.length_nil, Prod.mk.injEq, and_true]
        omega
      · rw [encN_d (by omega) (by omega)]
        show piece (_ :: _ :: _ :: _ :: t) = _
        have hf := fFrom_def (240 + r / 64 / 64 / 64)
        have ht := fTo_def (240 + r / 64 / 64 / 64)
        rw [piece, fMore_3 (by omega) (by omega), fBits_3' (by omega) (by omega), if_neg (by omega), show (3 : Int).toNat = 2 + 1 from rfl, conts, if_neg (by omega), conts, if_neg (by omega), conts, if_neg (by omega), conts]
        simp only [List.length_cons, List.length_nil, Prod.mk.injEq, and_true]
        omega
end Go.Proofs.Ytkdkoondchbekaa
