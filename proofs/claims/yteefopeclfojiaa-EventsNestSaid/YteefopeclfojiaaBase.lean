/-
  Small laws that every walk of this seat uses: what a call hands back, bits, bytes as text.
-/
import Derived.Test.YteefopeclfojiaaRows
import Derived.WalkKit
import Derived.WalkSpells
import Derived.WalkLawsBesides
import Derived.Lib.Hide
import Derived.Deep.Light
import Derived.Deep.QuietTactic
import Derived.BigQuiet
namespace Go.Proofs.Yteefopeclfojiaa
open Go.RowKit
theorem ret_bool {a b : Bool} (h : a = b) : Ending.returned (.bool a) = .returned (.bool b) := by rw [h]
theorem ret_int {k : IntKind} {a b : Int} (h : a = b) : Ending.returned (.int k a) = .returned (.int k b) := by rw [h]
theorem ret_str {a b : ByteArray} (h : a = b) : Ending.returned (.string a) = .returned (.string b) := by rw [h]
theorem ret2 {a b c d : Value} (h : a = c) (h' : b = d) : Ending.returned (.tuple #[a, b]) = .returned (.tuple #[c, d]) := by rw [h, h']
theorem ret3 {a b c x y z : Value} (h : a = x) (h' : b = y) (h'' : c = z) : Ending.returned (.tuple #[a, b, c]) = .returned (.tuple #[x, y, z]) := by rw [h, h', h'']
theorem ret4 {a b c d x y z u : Value} (h : a = x) (h' : b = y) (h'' : c = z) (h3 : d = u) : Ending.returned (.tuple #[a, b, c, d]) = .returned (.tuple #[x, y, z, u]) := by rw [h, h', h'', h3]
theorem v_bool {a b : Bool} (h : a = b) : Value.bool a = .bool b := by rw [h]
theorem v_int {k : IntKind} {a b : Int} (h : a = b) : Value.int k a = .int k b := by rw [h]
theorem v_str {a b : ByteArray} (h : a = b) : Value.string a = .string b := by rw [h]
theorem results_tmp4 {fn : Func} {t u v x : Tmp} (h : fn.results = #[.tmp t, .tmp u, .tmp v, .tmp x]) (tmps : Array Value) (P : Program) (w : World) :
    (results fn tmps).run P w = .ok (.tuple #[tmps.getD t undef, tmps.getD u undef, tmps.getD v undef, tmps.getD x undef]) w := by
  simp [results, h]
theorem bcell {W w1 : World} {B : Nat} (hb : Below B W w1) : (∀ b o, b < B → w1.cell? ⟨b, o, none⟩ = W.cell? ⟨b, o, none⟩) ∧ (∀ b o, b < B → w1.frozen? ⟨b, o, none⟩ = W.frozen? ⟨b, o, none⟩) :=
  ⟨fun b o h => hb.cell (p := ⟨b, o, none⟩) h, fun b o h => hb.frozen (p := ⟨b, o, none⟩) h⟩
theorem below_dn {B : Nat} {a w : World} (h : Below B a w) (n : Nat) : Below B a (w.drewN n) := ⟨h.os, h.tape, h.output, h.size, h.block⟩
/-! bits of an int -/
theorem wraps_i64 (n : Int) (h₀ : 0 ≤ n) (h₁ : n < 2 ^ 62) : IntKind.i64.wrap n = n := by rw [IntKind.wrap_i64]; omega
theorem i64_and_mask (i : Nat) (hi : i < 62) (n : Int) : bits .and .i64 n (2 ^ i - 1) = n % 2 ^ i := by
  have hp : (2 : Nat) ^ i < 2 ^ 62 := Nat.pow_lt_pow_right (by decide) hi
  have hpos : 0 < 2 ^ i := Nat.two_pow_pos i
  have h127 : (BitVec.ofInt 64 (2 ^ i - 1)).toNat = 2 ^ i - 1 := by
    have e : ((2 : Int) ^ i - 1) = ((2 ^ i - 1 : Nat) : Int) := by
      rw [Int.natCast_sub (by omega)]; simp
    rw [e, BitVec.toNat_ofInt]
    omega
  have hdvd : (2 : Nat) ^ i ∣ 2 ^ 64 := Nat.pow_dvd_pow 2 (by omega)
  have key : (BitVec.ofInt 64 n &&& BitVec.ofInt 64 (2 ^ i - 1)).toNat = (n % ((2 ^ 64 : Nat) : Int)).toNat % 2 ^ i := by
    rw [BitVec.toNat_and, BitVec.toNat_ofInt, h127, Nat.and_two_pow_sub_one_eq_mod]
  show IntKind.i64.wrap ((BitVec.ofInt 64 n &&& BitVec.ofInt 64 (2 ^ i - 1)).toNat : Nat) = n % 2 ^ i
  rw [key, IntKind.wrap_i64]
  have h2 : (((n % ((2 ^ 64 : Nat) : Int)).toNat % 2 ^ i : Nat) : Int) = n % 2 ^ i := by
    rw [Int.natCast_emod, Int.toNat_of_nonneg (Int.emod_nonneg _ (by decide))]
    have : ((2 ^ i : Nat) : Int) ∣ ((2 ^ 64 : Nat) : Int) := by exact_mod_cast hdvd
    rw [Int.emod_emod_of_dvd _ this]
    simp
  have h3 : ((n % ((2 ^ 64 : Nat) : Int)).toNat % 2 ^ i) < 2 ^ i := Nat.mod_lt _ hpos
  omega
theorem i64_and63 (n : Int) : bits .and .i64 n 63 = n % 64 := i64_and_mask 6 (by decide) n
theorem i64_and31 (n : Int) : bits .and .i64 n 31 = n % 32 := i64_and_mask 5 (by decide) n
theorem i64_and15 (n : Int) : bits .and .i64 n 15 = n % 16 := i64_and_mask 4 (by decide) n
theorem i64_and7 (n : Int) : bits .and .i64 n 7 = n % 8 := i64_and_mask 3 (by decide) n
theorem i64_and1023 (n : Int) : bits .and .i64 n 1023 = n % 1024 := i64_and_mask 10 (by decide) n
theorem i64_or6 (x y : Int) (h0 : 0 ≤ x) (h1 : x < 1152921504606846976) (h2 : x % 64 = 0) (h3 : 0 ≤ y) (h4 : y < 64) : bits .or .i64 x y = x + y :=
  bits_join .i64 62 (by decide) wraps_i64 6 x y h0 h2 (by omega) h3 h4 (by omega)
/-! bytes of a new block as text -/
theorem conv_new (W : World) (b n c : Nat) (C : Array Value) (xs : List Int) (fr : Nat × Nat) (hb : W.heap.size = b) (hC : C.toList = xs.map (Value.int .u8)) (hn : xs.length = n) :
    (convert 112 9 (.slice (some ⟨b, 0, none⟩) n c)).run Try.prog (W.alloc (.cells C 5 fr)) = .ok (.string (strOfNums xs)) (W.alloc (.cells C 5 fr)) := by
  refine run_convert_bytes_arg _ 112 5 Try.underlying112 Try.underlying5 b 0 n c xs hn ?_ 9 Try.underlying9
  intro i hi
  subst hb
  rw [World.cell?_alloc_mark]
  have : C[0+i]? = (xs.map (Value.int .u8))[i]? := by rw [← hC]; simp
  rw [this]
  simp [List.getElem?_eq_getElem (show i < xs.length by omega), List.getD]
theorem conv1 (W : World) (b : Nat) (x : Int) (hb : W.heap.size = b) : (convert 112 9 (.slice (some ⟨b, 0, none⟩) 1 1)).run Try.prog (W.alloc (.cells #[.int .u8 x] 5)) = .ok (.string (strOfNums [x])) (W.alloc (.cells #[.int .u8 x] 5)) := conv_new W b 1 1 _ [x] _ hb rfl rfl
theorem conv2 (W : World) (b : Nat) (x y : Int) (hb : W.heap.size = b) : (convert 112 9 (.slice (some ⟨b, 0, none⟩) 2 2)).run Try.prog (W.alloc (.cells #[.int .u8 x, .int .u8 y] 5)) = .ok (.string (strOfNums [x, y])) (W.alloc (.cells #[.int .u8 x, .int .u8 y] 5)) := conv_new W b 2 2 _ [x, y] _ hb rfl rfl
theorem conv3 (W : World) (b : Nat) (x y z : Int) (hb : W.heap.size = b) : (convert 112 9 (.slice (some ⟨b, 0, none⟩) 3 3)).run Try.prog (W.alloc (.cells #[.int .u8 x, .int .u8 y, .int .u8 z] 5)) = .ok (.string (strOfNums [x, y, z])) (W.alloc (.cells #[.int .u8 x, .int .u8 y, .int .u8 z] 5)) := conv_new W b 3 3 _ [x, y, z] _ hb rfl rfl
theorem conv4 (W : World) (b : Nat) (x y z u : Int) (hb : W.heap.size = b) : (convert 112 9 (.slice (some ⟨b, 0, none⟩) 4 4)).run Try.prog (W.alloc (.cells #[.int .u8 x, .int .u8 y, .int .u8 z, .int .u8 u] 5)) = .ok (.string (strOfNums [x, y, z, u])) (W.alloc (.cells #[.int .u8 x, .int .u8 y, .int .u8 z, .int .u8 u] 5)) := conv_new W b 4 4 _ [x, y, z, u] _ hb rfl rfl
end Go.Proofs.Yteefopeclfojiaa
