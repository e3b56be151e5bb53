/-
  The walks of utf8: Put, and the reference's Put.
-/
import Derived.Test.YtjemlaiciacnpaaU8A
namespace Go.Proofs.Ytjemlaiciacnpaa
open Go.RowKit
attribute [local go_sem] i64_and63 i64_and31 i64_and15 i64_and7
theorem encN_1 {r : Int} (h0 : isSc r = true) (h : r < 128) : encN r = [r] := by simp [encN, h0, h]
theorem encN_2 {r : Int} (h0 : isSc r = true) (h1 : 128 ≤ r) (h2 : r < 2048) : encN r = [192 + r / 64, 128 + r % 64] := by simp [encN, h0, show ¬ r < 128 by omega, h2]
theorem encN_3 {r : Int} (h0 : isSc r = true) (h1 : 2048 ≤ r) (h2 : r < 65536) : encN r = [224 + r / 64 / 64, 128 + r / 64 % 64, 128 + r % 64] := by simp [encN, h0, show ¬ r < 128 by omega, show ¬ r < 2048 by omega, h2]
theorem encN_4 {r : Int} (h0 : isSc r = true) (h1 : 65536 ≤ r) : encN r = [240 + r / 64 / 64 / 64, 128 + r / 64 / 64 % 64, 128 + r / 64 % 64, 128 + r % 64] := by simp [encN, h0, show ¬ r < 128 by omega, show ¬ r < 2048 by omega, show ¬ r < 65536 by omega]
theorem encN_0 {r : Int} (h0 : isSc r = false) : encN r = [] := by simp [encN, h0]
theorem sLen_1 {r : Int} (h0 : isSc r = true) (h : r < 128) : sLen r = 1 := by simp [sLen, h0, h]
theorem sLen_2 {r : Int} (h0 : isSc r = true) (h1 : 128 ≤ r) (h2 : r < 2048) : sLen r = 2 := by simp [sLen, h0, show ¬ r < 128 by omega, h2]
theorem sLen_3 {r : Int} (h0 : isSc r = true) (h1 : 2048 ≤ r) (h2 : r < 65536) : sLen r = 3 := by simp [sLen, h0, show ¬ r < 128 by omega, show ¬ r < 2048 by omega, h2]
theorem sLen_4 {r : Int} (h0 : isSc r = true) (h1 : 65536 ≤ r) : sLen r = 4 := by simp [sLen, h0, show ¬ r < 128 by omega, show ¬ r < 2048 by omega, show ¬ r < 65536 by omega]
theorem sLen_0 {r : Int} (h0 : isSc r = false) : sLen r = 0 := by simp [sLen, h0]
theorem or_bits6 (k x y : Int) (h : k = 192 ∨ k = 224 ∨ k = 240) (h0 : 0 ≤ y) (h1 : y < 8) (hx : x = y) : bits .or .i64 k x = k + y := by
  subst hx
  rcases h with rfl | rfl | rfl
  · exact bits_join .i64 62 (by decide) wraps_i64 5 192 x (by decide) (by decide) (by decide) h0 (by omega) (by omega)
  · exact bits_join .i64 62 (by decide) wraps_i64 4 224 x (by decide) (by decide) (by decide) h0 (by omega) (by omega)
  · exact bits_join .i64 62 (by decide) wraps_i64 3 240 x (by decide) (by decide) (by decide) h0 (by omega) (by omega)
theorem or192 (x : Int) (h0 : 0 ≤ x) (h1 : x < 32) : bits .or .i64 192 x = 192 + x := bits_join .i64 62 (by decide) wraps_i64 5 192 x (by decide) (by decide) (by decide) h0 (by omega) (by omega)
theorem or224 (x : Int) (h0 : 0 ≤ x) (h1 : x < 16) : bits .or .i64 224 x = 224 + x := bits_join .i64 62 (by decide) wraps_i64 4 224 x (by decide) (by decide) (by decide) h0 (by omega) (by omega)
theorem or240 (x : Int) (h0 : 0 ≤ x) (h1 : x < 8) : bits .or .i64 240 x = 240 + x := bits_join .i64 62 (by decide) wraps_i64 3 240 x (by decide) (by decide) (by decide) h0 (by omega) (by omega)
theorem or128 (x : Int) (h0 : 0 ≤ x) (h1 : x < 64) : bits .or .i64 128 x = 128 + x := bits_join .i64 62 (by decide) wraps_i64 6 128 x (by decide) (by decide) (by decide) h0 (by omega) (by omega)
end Go.Proofs.Ytjemlaiciacnpaa
