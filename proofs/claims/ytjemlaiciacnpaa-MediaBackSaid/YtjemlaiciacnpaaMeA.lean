/-
  The walks of bytes' kinds: media.kinds, the reference's sign, within; the library's IndexByte by the model's entry.
-/
import Derived.Test.YtjemlaiciacnpaaMeP
import Derived.Test.YtjemlaiciacnpaaBase
import Derived.Lib.Bytealg
import Derived.Lib.Walk
namespace Go.Proofs.Ytjemlaiciacnpaa
open Go.RowKit
set_option maxHeartbeats 1000000 in
set_option maxRecDepth 100000 in
theorem lite_IndexByte (s : ByteArray) (c : Int) (w : World) :
    Calls Try.prog 43 #[.string s, .int .u8 c] w fun e w' => e = .returned (.int .i64 (Lib.indexByte s.data.toList c.toNat.toUInt8)) ∧ w = w' := by
  go_enter Try.func43, Try.ntmps43
  go_wp2
  rw [run_callFunc_extern Try.func47 (by kernel_rfl) (by kernel_rfl) (by kernel_rfl) (e := Extern.BytealgIndexByte.indexByte) (by kernel_rfl), Lib.run_indexByteString]
  simp only [Result.andThen]
  rw [Oper.upon_value]
  go_wp2
  go_ret
  exact ⟨rfl, rfl⟩
theorem strings_IndexByte (s : ByteArray) (c : Int) (w : World) :
    Calls Try.prog 42 #[.string s, .int .u8 c] w fun e w' => e = .returned (.int .i64 (Lib.indexByte s.data.toList c.toNat.toUInt8)) ∧ w = w' := by
  go_enter Try.func42, Try.ntmps42
  go_wp2_with (go_at_call 43; refine (lite_IndexByte _ _ _).mono ?_; rintro e w' ⟨rfl, rfl⟩)
  go_ret
  exact ⟨rfl, rfl⟩
def signB : ByteArray := ⟨#[33, 35, 36, 37, 38, 39, 42, 43, 45, 46, 94, 95, 96, 124, 126]⟩
def kindsN (c : Int) : Int := (if isTok c then 1 else 0) + (if isBl c then 2 else 0) + (if isQt c then 4 else 0) + (if isEsc c then 8 else 0)
/-- what the code asks of a byte, told apart. -/
def ByteClass (k : Nat) (d i kn : Int) : Prop :=
  (97 ≤ d ∧ d ≤ 122 ∧ 33 ≤ k ∧ k ≤ 126 ∧ k ≠ 34 ∧ k ≠ 92 ∧ kn = 13) ∨ (d < 97 ∧ 48 ≤ k ∧ k ≤ 57 ∧ kn = 13) ∨
  ((d < 97 ∧ k < 48 ∨ d < 97 ∧ 57 < k ∨ 122 < d ∧ 57 < k) ∧ 0 ≤ i ∧ 33 ≤ k ∧ k ≤ 126 ∧ k ≠ 34 ∧ k ≠ 92 ∧ kn = 13) ∨
  ((d < 97 ∧ k < 48 ∨ d < 97 ∧ 57 < k ∨ 122 < d ∧ 57 < k) ∧ i < 0 ∧ 33 ≤ k ∧ k ≤ 126 ∧ k ≠ 34 ∧ k ≠ 92 ∧ kn = 12) ∨
  (i < 0 ∧ (122 < d ∧ 128 ≤ k ∧ kn = 4 ∨ d < 97 ∧ (k = 32 ∨ k = 9) ∧ kn = 14 ∨ (d < 97 ∧ k < 32 ∨ 122 < d ∧ k = 127) ∧ k ≠ 9 ∧ kn = 0 ∨ (d < 97 ∧ k = 34 ∨ 122 < d ∧ k = 92) ∧ kn = 8))
instance (k : Nat) (d i kn : Int) : Decidable (ByteClass k d i kn) := by unfold ByteClass; infer_instance
theorem byteClass_all : ((List.range 256).all fun c => decide (ByteClass c (bits .or .u8 (c : Nat) 32) (Lib.indexByte signB.data.toList (Int.toNat (c : Nat)).toUInt8) (kindsN (c : Nat)))) = true := by decide +kernel
theorem byte_class (c : Nat) (h : c < 256) : ByteClass c (bits .or .u8 (c : Nat) 32) (Lib.indexByte signB.data.toList (Int.toNat (c : Nat)).toUInt8) (kindsN (c : Nat)) :=
  of_decide_eq_true (List.all_eq_true.1 byteClass_all c (List.mem_range.2 h))
theorem sign_IndexByte (k : Nat) (i : Int) (hi : Lib.indexByte signB.data.toList (Int.toNat (k : Nat)).toUInt8 = i) (w : World) :
    Calls Try.prog 42 #[.string ⟨#[33, 35, 36, 37, 38, 39, 42, 43, 45, 46, 94, 95, 96, 124, 126]⟩, .int .u8 (k : Int)] w fun e w' => e = .returned (.int .i64 i) ∧ w = w' := by
  have h := strings_IndexByte signB (k : Int) w
  rw [hi] at h
  exact h
set_option maxRecDepth 100000 in
set_option maxHeartbeats 8000000 in
theorem media_kinds (c : Int) (w : World) (h0 : 0 ≤ c) (h1 : c < 256) :
    Calls Try.prog 40 #[.int .u8 c] w fun e w' => e = .returned (.int .i64 (kindsN c)) ∧ w = w' := by
  obtain ⟨k, rfl⟩ := Int.eq_ofNat_of_zero_le h0
  have hcl := byte_class k (by omega)
  obtain ⟨d, hd⟩ : ∃ d, bits .or .u8 (k : Int) 32 = d := ⟨_, rfl⟩
  obtain ⟨i, hi⟩ : ∃ i, Lib.indexByte signB.data.toList (Int.toNat (k : Nat)).toUInt8 = i := ⟨_, rfl⟩
  obtain ⟨n, hn⟩ : ∃ n, kindsN (k : Int) = n := ⟨_, rfl⟩
  rw [hd, hi, hn] at hcl
  have HI := Lib.hid hi
  have HN := Lib.hid hn
  clear hi hn
  rcases hcl with ⟨c1, c2, c3, c4, c5, c6, rfl⟩ | ⟨c1, c2, c3, rfl⟩ | ⟨⟨c1, c2⟩ | ⟨c1, c2⟩ | ⟨c1, c2⟩, c3, c4, c5, c6, c7, rfl⟩ | ⟨⟨c1, c2⟩ | ⟨c1, c2⟩ | ⟨c1, c2⟩, c3, c4, c5, c6, c7, rfl⟩ |
    ⟨c3, ⟨c1, c2, rfl⟩ | ⟨c1, c2 | c2, rfl⟩ | ⟨⟨c1, c2⟩ | ⟨c1, c2⟩, c4, rfl⟩ | ⟨⟨c1, c2⟩ | ⟨c1, c2⟩, rfl⟩⟩
  all_goals
    have o1 : bits .or .i64 0 1 = 1 := by decide
    have o2 : bits .or .i64 0 2 = 2 := by decide
    have o3 : bits .or .i64 0 8 = 8 := by decide
    have o4 : bits .or .i64 1 8 = 9 := by decide
    have o5 : bits .or .i64 2 8 = 10 := by decide
    have o6 : bits .or .i64 0 4 = 4 := by decide
    have o7 : bits .or .i64 9 4 = 13 := by decide
    have o8 : bits .or .i64 10 4 = 14 := by decide
    have o9 : bits .or .i64 8 4 = 12 := by decide
    have n1 : bits .and .i64 0 8 = 0 := by decide
    have n2 : bits .and .i64 8 8 = 8 := by decide
    have n3 : bits .and .i64 9 8 = 8 := by decide
    have n4 : bits .and .i64 10 8 = 8 := by decide
    (try have p1 := decide_eq_true (show (97 : Int) ≤ d by omega))
    (try have p1 := decide_eq_false (show ¬ (97 : Int) ≤ d by omega))
    (try have p2 := decide_eq_true (show d ≤ (122 : Int) by omega))
    (try have p2 := decide_eq_false (show ¬ d ≤ (122 : Int) by omega))
    (try have p3 := decide_eq_true (show (48 : Int) ≤ (k : Int) by omega))
    (try have p3 := decide_eq_false (show ¬ (48 : Int) ≤ (k : Int) by omega))
    (try have p4 := decide_eq_true (show (k : Int) ≤ (57 : Int) by omega))
    (try have p4 := decide_eq_false (show ¬ (k : Int) ≤ (57 : Int) by omega))
    (try have p5 := decide_eq_true (show (0 : Int) ≤ i by omega))
    (try have p5 := decide_eq_false (show ¬ (0 : Int) ≤ i by omega))
    (try have p6 : ((k : Int) == 32) = false := by simp; omega)
    (try have p6 : ((k : Int) == 32) = true := by simp; omega)
    (try have p7 : ((k : Int) == 9) = true := by simp; omega)
    (try have p10 : ((k : Int) != 34) = false := by simp; omega)
    (try have p11 : ((k : Int) != 92) = false := by simp; omega)
    (try have p7 : ((k : Int) == 9) = false := by simp; omega)
    (try have p8 := decide_eq_true (show (32 : Int) ≤ (k : Int) by omega))
    (try have p8 := decide_eq_false (show ¬ (32 : Int) ≤ (k : Int) by omega))
    (try have p9 := decide_eq_true (show (k : Int) ≤ (126 : Int) by omega))
    (try have p9 := decide_eq_false (show ¬ (k : Int) ≤ (126 : Int) by omega))
    (try have p10 : ((k : Int) != 34) = true := by simp; omega)
    (try have p11 : ((k : Int) != 92) = true := by simp; omega)
    (try have p12 := decide_eq_true (show (128 : Int) ≤ (k : Int) by omega))
    (try have p12 := decide_eq_false (show ¬ (128 : Int) ≤ (k : Int) by omega))
    clear c2
    go_enter Try.func40, Try.ntmps40
    go_wp2_with (go_at_call 42; refine (sign_IndexByte k i HI.out _).mono ?_; rintro e w' ⟨rfl, rfl⟩)
    go_ret
    exact ⟨by rw [HN.out]; rfl, rfl⟩
end Go.Proofs.Ytjemlaiciacnpaa
