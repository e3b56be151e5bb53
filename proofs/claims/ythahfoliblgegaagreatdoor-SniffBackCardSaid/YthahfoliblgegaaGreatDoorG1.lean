/-
  Parts Base U8P U8A U8B U8C U8Q U8M of this seat's texts, in one file: contracts of functions that the law reaches, and the plain laws behind them. No condition.
-/
import Derived.Test.YthahfoliblgegaaGreatDoorRows
import Derived.WalkKit
import Derived.WalkSpells
import Derived.WalkLawsBesides
import Derived.Lib.Hide
import Derived.Deep.Light
import Derived.Deep.QuietTactic
import Derived.BigQuiet
import Derived.Laws.BytesArg
/- 
  Small laws that every walk of this seat uses: what a call hands back, bits, bytes as text.
 -/
namespace Go.Proofs.YthahfoliblgegaaGreatDoor
open Go.RowKit
theorem ret_bool {a b : Bool} (h : a = b) : Ending.returned (.bool a) = .returned (.bool b) := by rw [h]
theorem ret_int {k : IntKind} {a b : Int} (h : a = b) : Ending.returned (.int k a) = .returned (.int k b) := by rw [h]
theorem ret_str {a b : ByteArray} (h : a = b) : Ending.returned (.string a) = .returned (.string b) := by rw [h]
theorem ret2 {a b c d : Value} (h : a = c) (h' : b = d) : Ending.returned (.tuple #[a, b]) = .returned (.tuple #[c, d]) := by rw [h, h']
theorem ret3 {a b c x y z : Value} (h : a = x) (h' : b = y) (h'' : c = z) : Ending.returned (.tuple #[a, b, c]) = .returned (.tuple #[x, y, z]) := by rw [h, h', h'']
theorem ret4 {a b c d x y z u : Value} (h : a = x) (h' : b = y) (h'' : c = z) (h3 : d = u) : Ending.returned (.tuple #[a, b, c, d]) = .returned (.tuple #[x, y, z, u]) := by rw [h, h', h'', h3]
theorem v_bool {a b : Bool} (h : a = b) : Value.bool a = .bool b := by rw [h]
theorem v_int {k : IntKind} {a b : Int} (h : a = b) : Value.int k a = .int k b := by rw [h]
theorem v_str {a b : ByteArray} (h : a = b) : Value.string a = .string b := by rw [h]
theorem results_tmp4 {fn : Func} {t u v x : Tmp} (h : fn.results = #[.tmp t, .tmp u, .tmp v, .tmp x]) (tmps : Array Value) (P : Program) (w : World) :
    (results fn tmps).run P w = .ok (.tuple #[tmps.getD t undef, tmps.getD u undef, tmps.getD v undef, tmps.getD x undef]) w := by
  simp [results, h]
theorem bcell {W w1 : World} {B : Nat} (hb : Below B W w1) : (∀ b o, b < B → w1.cell? ⟨b, o, none⟩ = W.cell? ⟨b, o, none⟩) ∧ (∀ b o, b < B → w1.frozen? ⟨b, o, none⟩ = W.frozen? ⟨b, o, none⟩) :=
  ⟨fun b o h => hb.cell (p := ⟨b, o, none⟩) h, fun b o h => hb.frozen (p := ⟨b, o, none⟩) h⟩
theorem below_dn {B : Nat} {a w : World} (h : Below B a w) (n : Nat) : Below B a (w.drewN n) := ⟨h.os, h.tape, h.output, h.size, h.block⟩
/-! bits of an int -/
theorem wraps_i64 (n : Int) (h₀ : 0 ≤ n) (h₁ : n < 2 ^ 62) : IntKind.i64.wrap n = n := by rw [IntKind.wrap_i64]; omega
theorem i64_and_mask (i : Nat) (hi : i < 62) (n : Int) : bits .and .i64 n (2 ^ i - 1) = n % 2 ^ i := by
  have hp : (2 : Nat) ^ i < 2 ^ 62 := Nat.pow_lt_pow_right (by decide) hi
  have hpos : 0 < 2 ^ i := Nat.two_pow_pos i
  have h127 : (BitVec.ofInt 64 (2 ^ i - 1)).toNat = 2 ^ i - 1 := by
    have e : ((2 : Int) ^ i - 1) = ((2 ^ i - 1 : Nat) : Int) := by
      rw [Int.natCast_sub (by omega)]; simp
    rw [e, BitVec.toNat_ofInt]
    omega
  have hdvd : (2 : Nat) ^ i ∣ 2 ^ 64 := Nat.pow_dvd_pow 2 (by omega)
  have key : (BitVec.ofInt 64 n &&& BitVec.ofInt 64 (2 ^ i - 1)).toNat = (n % ((2 ^ 64 : Nat) : Int)).toNat % 2 ^ i := by
    rw [BitVec.toNat_and, BitVec.toNat_ofInt, h127, Nat.and_two_pow_sub_one_eq_mod]
  show IntKind.i64.wrap ((BitVec.ofInt 64 n &&& BitVec.ofInt 64 (2 ^ i - 1)).toNat : Nat) = n % 2 ^ i
  rw [key, IntKind.wrap_i64]
  have h2 : (((n % ((2 ^ 64 : Nat) : Int)).toNat % 2 ^ i : Nat) : Int) = n % 2 ^ i := by
    rw [Int.natCast_emod, Int.toNat_of_nonneg (Int.emod_nonneg _ (by decide))]
    have : ((2 ^ i : Nat) : Int) ∣ ((2 ^ 64 : Nat) : Int) := by exact_mod_cast hdvd
    rw [Int.emod_emod_of_dvd _ this]
    simp
  have h3 : ((n % ((2 ^ 64 : Nat) : Int)).toNat % 2 ^ i) < 2 ^ i := Nat.mod_lt _ hpos
  omega
theorem i64_and63 (n : Int) : bits .and .i64 n 63 = n % 64 := i64_and_mask 6 (by decide) n
theorem i64_and31 (n : Int) : bits .and .i64 n 31 = n % 32 := i64_and_mask 5 (by decide) n
theorem i64_and15 (n : Int) : bits .and .i64 n 15 = n % 16 := i64_and_mask 4 (by decide) n
theorem i64_and7 (n : Int) : bits .and .i64 n 7 = n % 8 := i64_and_mask 3 (by decide) n
theorem i64_and1023 (n : Int) : bits .and .i64 n 1023 = n % 1024 := i64_and_mask 10 (by decide) n
theorem i64_or6 (x y : Int) (h0 : 0 ≤ x) (h1 : x < 1152921504606846976) (h2 : x % 64 = 0) (h3 : 0 ≤ y) (h4 : y < 64) : bits .or .i64 x y = x + y :=
  bits_join .i64 62 (by decide) wraps_i64 6 x y h0 h2 (by omega) h3 h4 (by omega)
/-! bytes of a new block as text -/
theorem conv_new (W : World) (b n c : Nat) (C : Array Value) (xs : List Int) (fr : Nat × Nat) (hb : W.heap.size = b) (hC : C.toList = xs.map (Value.int .u8)) (hn : xs.length = n) :
    (convert 104 9 (.slice (some ⟨b, 0, none⟩) n c)).run Tryz.prog (W.alloc (.cells C 5 fr)) = .ok (.string (strOfNums xs)) (W.alloc (.cells C 5 fr)) := by
  refine run_convert_bytes_arg _ 104 5 Tryz.underlying104 Tryz.underlying5 b 0 n c xs hn ?_ 9 Tryz.underlying9
  intro i hi
  subst hb
  rw [World.cell?_alloc_mark]
  have : C[0+i]? = (xs.map (Value.int .u8))[i]? := by rw [← hC]; simp
  rw [this]
  simp [List.getElem?_eq_getElem (show i < xs.length by omega), List.getD]
theorem conv1 (W : World) (b : Nat) (x : Int) (hb : W.heap.size = b) : (convert 104 9 (.slice (some ⟨b, 0, none⟩) 1 1)).run Tryz.prog (W.alloc (.cells #[.int .u8 x] 5)) = .ok (.string (strOfNums [x])) (W.alloc (.cells #[.int .u8 x] 5)) := conv_new W b 1 1 _ [x] _ hb rfl rfl
theorem conv2 (W : World) (b : Nat) (x y : Int) (hb : W.heap.size = b) : (convert 104 9 (.slice (some ⟨b, 0, none⟩) 2 2)).run Tryz.prog (W.alloc (.cells #[.int .u8 x, .int .u8 y] 5)) = .ok (.string (strOfNums [x, y])) (W.alloc (.cells #[.int .u8 x, .int .u8 y] 5)) := conv_new W b 2 2 _ [x, y] _ hb rfl rfl
theorem conv3 (W : World) (b : Nat) (x y z : Int) (hb : W.heap.size = b) : (convert 104 9 (.slice (some ⟨b, 0, none⟩) 3 3)).run Tryz.prog (W.alloc (.cells #[.int .u8 x, .int .u8 y, .int .u8 z] 5)) = .ok (.string (strOfNums [x, y, z])) (W.alloc (.cells #[.int .u8 x, .int .u8 y, .int .u8 z] 5)) := conv_new W b 3 3 _ [x, y, z] _ hb rfl rfl
theorem conv4 (W : World) (b : Nat) (x y z u : Int) (hb : W.heap.size = b) : (convert 104 9 (.slice (some ⟨b, 0, none⟩) 4 4)).run Tryz.prog (W.alloc (.cells #[.int .u8 x, .int .u8 y, .int .u8 z, .int .u8 u] 5)) = .ok (.string (strOfNums [x, y, z, u])) (W.alloc (.cells #[.int .u8 x, .int .u8 y, .int .u8 z, .int .u8 u] 5)) := conv_new W b 4 4 _ [x, y, z, u] _ hb rfl rfl
end Go.Proofs.YthahfoliblgegaaGreatDoor
/- 
  UTF-8 in plain terms: a scalar's bytes, the piece that stands at the head of bytes. No program in sight.
 -/
namespace Go.Proofs.YthahfoliblgegaaGreatDoor
def isSc (r : Int) : Bool := decide (0 ≤ r ∧ r ≤ 1114111 ∧ (r < 55296 ∨ 57343 < r))
def sLen (r : Int) : Int := if isSc r = false then 0 else if r < 128 then 1 else if r < 2048 then 2 else if r < 65536 then 3 else 4
def encN (r : Int) : List Int :=
  if isSc r = false then [] else if r < 128 then [r] else if r < 2048 then [192 + r / 64, 128 + r % 64]
  else if r < 65536 then [224 + r / 64 / 64, 128 + r / 64 % 64, 128 + r % 64]
  else [240 + r / 64 / 64 / 64, 128 + r / 64 / 64 % 64, 128 + r / 64 % 64, 128 + r % 64]
def encS (r : Int) : ByteArray := strOfNums (encN r)
def fMore (c : Int) : Int := if c < 128 then 0 else if c < 194 ∨ 244 < c then -1 else if c < 224 then 1 else if c < 240 then 2 else 3
def fBits (c : Int) : Int := if c < 128 then c else if c < 194 ∨ 244 < c then 0 else if c < 224 then c % 32 else if c < 240 then c % 16 else c % 8
def fFrom (c : Int) : Int := if c = 224 then 160 else if c = 240 then 144 else 128
def fTo (c : Int) : Int := if c = 237 then 159 else if c = 244 then 143 else 191
/-- what the bytes behind a first one make: so many are wanted; the scalar so far; the next one's bounds; how many bytes are read. -/
def conts : Nat → Int → Int → Int → Nat → List Int → Int × Nat
  | 0, r, _, _, n, _ => (r, n)
  | _ + 1, _, _, _, n, [] => (-1, n)
  | m + 1, r, fr, to, n, c :: t => if c < fr ∨ to < c then (-1, n) else conts m (r * 64 + c % 64) 128 191 (n + 1) t
/-- the piece at the head of bytes: its scalar (-1: it is wrong), how many bytes it has. -/
def piece : List Int → Int × Nat
  | [] => (-1, 1)
  | c :: t => if fMore c < 0 then (-1, 1) else conts (fMore c).toNat (fBits c) (fFrom c) (fTo c) 1 t
/-- a text's bytes as numbers. -/
def nums (s : ByteArray) : List Int := s.data.toList.map fun c => (c.toNat : Int)
theorem nums_length (s : ByteArray) : (nums s).length = s.size := by unfold nums; rw [List.length_map, Array.length_toList]; rfl
theorem nums_drop (s : ByteArray) (k : Nat) (h : k < s.size) : (nums s).drop k = (s[k].toNat : Int) :: (nums s).drop (k + 1) := by
  have h' : k < (nums s).length := by rw [nums_length]; exact h
  rw [List.drop_eq_getElem_cons h']
  simp [nums]
  rfl
theorem nums_drop_end (s : ByteArray) (k : Nat) (h : s.size ≤ k) : (nums s).drop k = [] := by
  rw [List.drop_eq_nil_iff, nums_length]; exact h
theorem fMore_lo (c : Int) : -1 ≤ fMore c ∧ fMore c ≤ 3 := by unfold fMore; split <;> (try split) <;> (try split) <;> (try split) <;> omega
theorem fBits_lo (c : Int) (h0 : 0 ≤ c) : 0 ≤ fBits c ∧ fBits c < 128 := by
  unfold fBits
  split
  · omega
  · split
    · omega
    · split
      · omega
      · split <;> omega
theorem fFrom_lo (c : Int) : 128 ≤ fFrom c ∧ fFrom c ≤ 160 := by unfold fFrom; split <;> (try split) <;> omega
theorem fTo_lo (c : Int) : 143 ≤ fTo c ∧ fTo c ≤ 191 := by unfold fTo; split <;> (try split) <;> omega
/-- a piece has at least one byte, and no more than there are. -/
theorem conts_n : ∀ (m : Nat) (r fr to : Int) (n : Nat) (l : List Int), n ≤ (conts m r fr to n l).2 ∧ (conts m r fr to n l).2 ≤ n + l.length ∧ (conts m r fr to n l).2 ≤ n + m
  | 0, r, fr, to, n, l => by simp [conts]
  | m + 1, r, fr, to, n, [] => by simp [conts]
  | m + 1, r, fr, to, n, c :: t => by
    rw [conts]
    split
    · simp
    · have := conts_n m (r * 64 + c % 64) 128 191 (n + 1) t
      simp only [List.length_cons]
      omega
theorem piece_n (c : Int) (t : List Int) : 1 ≤ (piece (c :: t)).2 ∧ (piece (c :: t)).2 ≤ (c :: t).length ∧ (piece (c :: t)).2 ≤ 4 := by
  rw [piece]
  split
  · simp
  · have := conts_n (fMore c).toNat (fBits c) (fFrom c) (fTo c) 1 t
    have h3 := fMore_lo c
    simp only [List.length_cons]
    omega
end Go.Proofs.YthahfoliblgegaaGreatDoor
/- 
  The walks of utf8 that loop over no text: Is, Len, Put, follow, piece, Next, and the reference's.
 -/
namespace Go.Proofs.YthahfoliblgegaaGreatDoor
open Go.RowKit
attribute [local go_sem] i64_and63 i64_and31 i64_and15 i64_and7
theorem isSc_bd {r : Int} (h : isSc r = true) : 0 ≤ r ∧ r < 1114112 := by unfold isSc at h; have := of_decide_eq_true h; omega
set_option maxHeartbeats 400000 in
theorem utf8_Is (r : Int) (w : World) :
    Calls Tryz.prog 160 #[.int .i64 r] w fun e w' => e = .returned (.bool (isSc r)) ∧ w = w' := by
  go_enter Tryz.func160, Tryz.ntmps160
  go_wp2
  all_goals (go_ret; refine ⟨ret_bool ?_, rfl⟩; rw [Bool.eq_iff_iff]; simp [isSc]; omega)
set_option maxHeartbeats 400000 in
theorem ref02_Is (r : Int) (w : World) :
    Calls Tryz.prog 165 #[.int .i64 r] w fun e w' => e = .returned (.bool (isSc r)) ∧ w = w' := by
  go_enter Tryz.func165, Tryz.ntmps165
  go_wp2
  all_goals (go_ret; refine ⟨ret_bool ?_, rfl⟩; rw [Bool.eq_iff_iff]; simp [isSc]; omega)
set_option maxHeartbeats 400000 in
theorem ref02_Len (r : Int) (w : World) :
    Calls Tryz.prog 148 #[.int .i64 r] w fun e w' => e = .returned (.int .i64 (sLen r)) ∧ w = w' := by
  by_cases hs : isSc r = true
  · have H := Lib.hid hs
    clear hs
    go_enter Tryz.func148, Tryz.ntmps148
    go_wp2_with (go_at_call 165; refine (ref02_Is _ _).mono ?_; rintro e w' ⟨rfl, rfl⟩; rw [H.out])
    all_goals (go_ret; refine ⟨ret_int ?_, rfl⟩; have h := H.out; simp [sLen, h]; try omega)
  · have hs : isSc r = false := by simpa using hs
    have H := Lib.hid hs
    clear hs
    go_enter Tryz.func148, Tryz.ntmps148
    go_wp2_with (go_at_call 165; refine (ref02_Is _ _).mono ?_; rintro e w' ⟨rfl, rfl⟩; rw [H.out])
    all_goals (go_ret; refine ⟨ret_int ?_, rfl⟩; have h := H.out; simp [sLen, h])
set_option maxHeartbeats 400000 in
theorem utf8_Len (r : Int) (w : World) :
    Calls Tryz.prog 145 #[.int .i64 r] w fun e w' => e = .returned (.int .i64 (sLen r)) ∧ Below w.heap.size w w' := by
  by_cases hs : isSc r = true
  · have hb : r < 1114112 := (isSc_bd hs).2
    have H := Lib.hid hs
    clear hs
    go_enter Tryz.func145, Tryz.ntmps145
    go_wp2_with (go_at_call 160; refine (utf8_Is _ _).mono ?_; rintro e w' ⟨rfl, rfl⟩; rw [H.out])
    have i0 : ∀ w, (Instr.index 184 (.agg #[.int .i64 128, .int .i64 2048, .int .i64 65536, .int .i64 1114112]) (.int .i64 0)).run Tryz.prog w = .ok (.int .i64 128) w := fun _ => by kernel_rfl
    have i1 : ∀ w, (Instr.index 184 (.agg #[.int .i64 128, .int .i64 2048, .int .i64 65536, .int .i64 1114112]) (.int .i64 1)).run Tryz.prog w = .ok (.int .i64 2048) w := fun _ => by kernel_rfl
    have i2 : ∀ w, (Instr.index 184 (.agg #[.int .i64 128, .int .i64 2048, .int .i64 65536, .int .i64 1114112]) (.int .i64 2)).run Tryz.prog w = .ok (.int .i64 65536) w := fun _ => by kernel_rfl
    have i3 : ∀ w, (Instr.index 184 (.agg #[.int .i64 128, .int .i64 2048, .int .i64 65536, .int .i64 1114112]) (.int .i64 3)).run Tryz.prog w = .ok (.int .i64 1114112) w := fun _ => by kernel_rfl
    refine wp_loop_rounds 4 ?_
    rw [rounds_succ]
    go_wp2
    all_goals try (rw [rounds_succ]; go_wp2)
    all_goals try (rw [rounds_succ]; go_wp2)
    all_goals try (rw [rounds_succ]; go_wp2)
    all_goals (go_ret; refine ⟨ret_int ?_, ?_⟩; (have h := H.out; simp [sLen, h]; try omega))
    all_goals exact (Below.refl _ _).alloc (Nat.le_refl _) _
  · have hs : isSc r = false := by simpa using hs
    have H := Lib.hid hs
    clear hs
    go_enter Tryz.func145, Tryz.ntmps145
    go_wp2_with (go_at_call 160; refine (utf8_Is _ _).mono ?_; rintro e w' ⟨rfl, rfl⟩; rw [H.out])
    all_goals (go_ret; refine ⟨ret_int ?_, Below.refl _ _⟩; have h := H.out; simp [sLen, h])
end Go.Proofs.YthahfoliblgegaaGreatDoor
/- 
  The walks of utf8: Put, and the reference's Put.
 -/
namespace Go.Proofs.YthahfoliblgegaaGreatDoor
open Go.RowKit
attribute [local go_sem] i64_and63 i64_and31 i64_and15 i64_and7
theorem encN_1 {r : Int} (h0 : isSc r = true) (h : r < 128) : encN r = [r] := by simp [encN, h0, h]
theorem encN_2 {r : Int} (h0 : isSc r = true) (h1 : 128 ≤ r) (h2 : r < 2048) : encN r = [192 + r / 64, 128 + r % 64] := by simp [encN, h0, show ¬ r < 128 by omega, h2]
theorem encN_3 {r : Int} (h0 : isSc r = true) (h1 : 2048 ≤ r) (h2 : r < 65536) : encN r = [224 + r / 64 / 64, 128 + r / 64 % 64, 128 + r % 64] := by simp [encN, h0, show ¬ r < 128 by omega, show ¬ r < 2048 by omega, h2]
theorem encN_4 {r : Int} (h0 : isSc r = true) (h1 : 65536 ≤ r) : encN r = [240 + r / 64 / 64 / 64, 128 + r / 64 / 64 % 64, 128 + r / 64 % 64, 128 + r % 64] := by simp [encN, h0, show ¬ r < 128 by omega, show ¬ r < 2048 by omega, show ¬ r < 65536 by omega]
theorem encN_0 {r : Int} (h0 : isSc r = false) : encN r = [] := by simp [encN, h0]
theorem sLen_1 {r : Int} (h0 : isSc r = true) (h : r < 128) : sLen r = 1 := by simp [sLen, h0, h]
theorem sLen_2 {r : Int} (h0 : isSc r = true) (h1 : 128 ≤ r) (h2 : r < 2048) : sLen r = 2 := by simp [sLen, h0, show ¬ r < 128 by omega, h2]
theorem sLen_3 {r : Int} (h0 : isSc r = true) (h1 : 2048 ≤ r) (h2 : r < 65536) : sLen r = 3 := by simp [sLen, h0, show ¬ r < 128 by omega, show ¬ r < 2048 by omega, h2]
theorem sLen_4 {r : Int} (h0 : isSc r = true) (h1 : 65536 ≤ r) : sLen r = 4 := by simp [sLen, h0, show ¬ r < 128 by omega, show ¬ r < 2048 by omega, show ¬ r < 65536 by omega]
theorem sLen_0 {r : Int} (h0 : isSc r = false) : sLen r = 0 := by simp [sLen, h0]
theorem or_bits6 (k x y : Int) (h : k = 192 ∨ k = 224 ∨ k = 240) (h0 : 0 ≤ y) (h1 : y < 8) (hx : x = y) : bits .or .i64 k x = k + y := by
  subst hx
  rcases h with rfl | rfl | rfl
  · exact bits_join .i64 62 (by decide) wraps_i64 5 192 x (by decide) (by decide) (by decide) h0 (by omega) (by omega)
  · exact bits_join .i64 62 (by decide) wraps_i64 4 224 x (by decide) (by decide) (by decide) h0 (by omega) (by omega)
  · exact bits_join .i64 62 (by decide) wraps_i64 3 240 x (by decide) (by decide) (by decide) h0 (by omega) (by omega)
theorem or192 (x : Int) (h0 : 0 ≤ x) (h1 : x < 32) : bits .or .i64 192 x = 192 + x := bits_join .i64 62 (by decide) wraps_i64 5 192 x (by decide) (by decide) (by decide) h0 (by omega) (by omega)
theorem or224 (x : Int) (h0 : 0 ≤ x) (h1 : x < 16) : bits .or .i64 224 x = 224 + x := bits_join .i64 62 (by decide) wraps_i64 4 224 x (by decide) (by decide) (by decide) h0 (by omega) (by omega)
theorem or240 (x : Int) (h0 : 0 ≤ x) (h1 : x < 8) : bits .or .i64 240 x = 240 + x := bits_join .i64 62 (by decide) wraps_i64 3 240 x (by decide) (by decide) (by decide) h0 (by omega) (by omega)
theorem or128 (x : Int) (h0 : 0 ≤ x) (h1 : x < 64) : bits .or .i64 128 x = 128 + x := bits_join .i64 62 (by decide) wraps_i64 6 128 x (by decide) (by decide) (by decide) h0 (by omega) (by omega)
set_option maxHeartbeats 400000 in
theorem utf8_Put_0 (r : Int) (w : World) (hs : isSc r = false) :
    Calls Tryz.prog 118 #[.int .i64 r] w fun e w' => e = .returned (.tuple #[.string (encS r), .bool false]) ∧ Below w.heap.size w w' := by
  have H := Lib.hid (sLen_0 hs)
  have E := Lib.hid (encN_0 hs)
  clear hs
  go_enter Tryz.func118, Tryz.ntmps118
  go_wp2_with fail
  refine (utf8_Len _ _).mono ?_; rintro e w' ⟨rfl, hb⟩; rw [H.out]
  go_wp2
  go_ret2
  exact ⟨ret2 (v_str (by unfold encS; rw [E.out]; rfl)) rfl, hb⟩
set_option maxHeartbeats 400000 in
theorem utf8_Put_1 (r : Int) (w : World) (hs : isSc r = true) (h1 : 0 ≤ r) (h2 : r < 128):
    Calls Tryz.prog 118 #[.int .i64 r] w fun e w' => e = .returned (.tuple #[.string (encS r), .bool true]) ∧ Below w.heap.size w w' := by
  have H := Lib.hid (sLen_1 hs h2)
  have E := Lib.hid (encN_1 hs h2)
  clear hs
  have hc := conv1
  go_enter Tryz.func118, Tryz.ntmps118
  go_wp2_with fail
  refine (utf8_Len _ _).mono ?_; rintro e w' ⟨rfl, hb⟩; rw [H.out]
  go_wp2
  go_ret2
  exact ⟨ret2 (v_str (by unfold encS; rw [E.out])) rfl, hb.alloc hb.size _⟩
set_option maxHeartbeats 400000 in
theorem utf8_Put_2 (r : Int) (w : World) (hs : isSc r = true) (h1 : 128 ≤ r) (h2 : r < 2048):
    Calls Tryz.prog 118 #[.int .i64 r] w fun e w' => e = .returned (.tuple #[.string (encS r), .bool true]) ∧ Below w.heap.size w w' := by
  have H := Lib.hid (sLen_2 hs h1 h2)
  have E := Lib.hid (encN_2 hs h1 h2)
  clear hs
  have hmk : ∀ w : World, (Instr.makeSlice 104 (.int .i64 2) (.int .i64 2)).run Tryz.prog w = .ok (.slice (some ⟨w.heap.size, 0, none⟩) 2 2) (w.alloc (.cells #[.int .u8 0, .int .u8 0] 5)) := fun _ => by kernel_rfl
  have hc := conv2
  go_enter Tryz.func118, Tryz.ntmps118
  go_wp2_with fail
  refine (utf8_Len _ _).mono ?_; rintro e w' ⟨rfl, hb⟩; rw [H.out]
  go_wp2
  refine wp_loop_rounds 2 ?_
  iterate 2 (rw [rounds_succ]; go_wp2)
  go_ret2
  exact ⟨ret2 (v_str (by unfold encS; rw [E.out])) rfl, (hb.alloc hb.size _).alloc (by have := hb.size; simp; omega) _⟩
set_option maxHeartbeats 400000 in
theorem utf8_Put_3 (r : Int) (w : World) (hs : isSc r = true) (h1 : 2048 ≤ r) (h2 : r < 65536):
    Calls Tryz.prog 118 #[.int .i64 r] w fun e w' => e = .returned (.tuple #[.string (encS r), .bool true]) ∧ Below w.heap.size w w' := by
  have H := Lib.hid (sLen_3 hs h1 h2)
  have E := Lib.hid (encN_3 hs h1 h2)
  clear hs
  have hmk : ∀ w : World, (Instr.makeSlice 104 (.int .i64 3) (.int .i64 3)).run Tryz.prog w = .ok (.slice (some ⟨w.heap.size, 0, none⟩) 3 3) (w.alloc (.cells #[.int .u8 0, .int .u8 0, .int .u8 0] 5)) := fun _ => by kernel_rfl
  have hc := conv3
  go_enter Tryz.func118, Tryz.ntmps118
  go_wp2_with fail
  refine (utf8_Len _ _).mono ?_; rintro e w' ⟨rfl, hb⟩; rw [H.out]
  go_wp2
  refine wp_loop_rounds 3 ?_
  iterate 3 (rw [rounds_succ]; go_wp2)
  go_ret2
  exact ⟨ret2 (v_str (by unfold encS; rw [E.out])) rfl, (hb.alloc hb.size _).alloc (by have := hb.size; simp; omega) _⟩
set_option maxHeartbeats 400000 in
theorem utf8_Put_4 (r : Int) (w : World) (hs : isSc r = true) (h1 : 65536 ≤ r) (h2 : r < 1114112):
    Calls Tryz.prog 118 #[.int .i64 r] w fun e w' => e = .returned (.tuple #[.string (encS r), .bool true]) ∧ Below w.heap.size w w' := by
  have H := Lib.hid (sLen_4 hs h1)
  have E := Lib.hid (encN_4 hs h1)
  clear hs
  have hmk : ∀ w : World, (Instr.makeSlice 104 (.int .i64 4) (.int .i64 4)).run Tryz.prog w = .ok (.slice (some ⟨w.heap.size, 0, none⟩) 4 4) (w.alloc (.cells #[.int .u8 0, .int .u8 0, .int .u8 0, .int .u8 0] 5)) := fun _ => by kernel_rfl
  have hc := conv4
  go_enter Tryz.func118, Tryz.ntmps118
  go_wp2_with fail
  refine (utf8_Len _ _).mono ?_; rintro e w' ⟨rfl, hb⟩; rw [H.out]
  go_wp2
  refine wp_loop_rounds 4 ?_
  iterate 4 (rw [rounds_succ]; go_wp2)
  go_ret2
  exact ⟨ret2 (v_str (by unfold encS; rw [E.out])) rfl, (hb.alloc hb.size _).alloc (by have := hb.size; simp; omega) _⟩
theorem utf8_Put (r : Int) (w : World) :
    Calls Tryz.prog 118 #[.int .i64 r] w fun e w' => e = .returned (.tuple #[.string (encS r), .bool (isSc r)]) ∧ Below w.heap.size w w' := by
  cases hs : isSc r with
  | false => exact utf8_Put_0 r w hs
  | true =>
    have hb := isSc_bd hs
    by_cases h1 : r < 128
    · exact utf8_Put_1 r w hs (by omega) h1
    · by_cases h2 : r < 2048
      · exact utf8_Put_2 r w hs (by omega) h2
      · by_cases h3 : r < 65536
        · exact utf8_Put_3 r w hs (by omega) h3
        · exact utf8_Put_4 r w hs (by omega) (by omega)
set_option maxHeartbeats 400000 in
theorem ref02_Put_0 (r : Int) (w : World) (hs : isSc r = false) :
    Calls Tryz.prog 126 #[.int .i64 r] w fun e w' => e = .returned (.tuple #[.string (encS r), .bool false]) ∧ Below w.heap.size w w' := by
  have H := Lib.hid (sLen_0 hs)
  have E := Lib.hid (encN_0 hs)
  clear hs
  go_enter Tryz.func126, Tryz.ntmps126
  go_wp2_with fail
  refine (ref02_Len _ _).mono ?_; rintro e w' ⟨rfl, rfl⟩; rw [H.out]
  go_wp2
  go_ret2
  exact ⟨ret2 (v_str (by unfold encS; rw [E.out]; rfl)) rfl, Below.refl _ _⟩
set_option maxHeartbeats 400000 in
theorem ref02_Put_1 (r : Int) (w : World) (hs : isSc r = true) (h1 : 0 ≤ r) (h2 : r < 128):
    Calls Tryz.prog 126 #[.int .i64 r] w fun e w' => e = .returned (.tuple #[.string (encS r), .bool true]) ∧ Below w.heap.size w w' := by
  have H := Lib.hid (sLen_1 hs h2)
  have E := Lib.hid (encN_1 hs h2)
  clear hs
  have hc := conv1
  go_enter Tryz.func126, Tryz.ntmps126
  go_wp2_with fail
  refine (ref02_Len _ _).mono ?_; rintro e w' ⟨rfl, rfl⟩; rw [H.out]
  go_wp2
  go_ret2
  exact ⟨ret2 (v_str (by unfold encS; rw [E.out])) rfl, (Below.refl _ _).alloc (Nat.le_refl _) _⟩
set_option maxHeartbeats 400000 in
theorem ref02_Put_2 (r : Int) (w : World) (hs : isSc r = true) (h1 : 128 ≤ r) (h2 : r < 2048):
    Calls Tryz.prog 126 #[.int .i64 r] w fun e w' => e = .returned (.tuple #[.string (encS r), .bool true]) ∧ Below w.heap.size w w' := by
  have H := Lib.hid (sLen_2 hs h1 h2)
  have E := Lib.hid (encN_2 hs h1 h2)
  clear hs
  have o1 : bits .or .i64 192 (r / 64) = 192 + r / 64 := or192 _ (by omega) (by omega)
  have o2 : bits .or .i64 128 (r % 64) = 128 + r % 64 := or128 _ (by omega) (by omega)
  have hc := conv2
  go_enter Tryz.func126, Tryz.ntmps126
  go_wp2_with fail
  refine (ref02_Len _ _).mono ?_; rintro e w' ⟨rfl, rfl⟩; rw [H.out]
  go_wp2
  go_ret2
  exact ⟨ret2 (v_str (by unfold encS; rw [E.out])) rfl, (Below.refl _ _).alloc (Nat.le_refl _) _⟩
set_option maxHeartbeats 400000 in
theorem ref02_Put_3 (r : Int) (w : World) (hs : isSc r = true) (h1 : 2048 ≤ r) (h2 : r < 65536):
    Calls Tryz.prog 126 #[.int .i64 r] w fun e w' => e = .returned (.tuple #[.string (encS r), .bool true]) ∧ Below w.heap.size w w' := by
  have H := Lib.hid (sLen_3 hs h1 h2)
  have E := Lib.hid (encN_3 hs h1 h2)
  clear hs
  have o1 : bits .or .i64 224 (r / 4096) = 224 + r / 4096 := or224 _ (by omega) (by omega)
  have o2 : bits .or .i64 128 (r % 64) = 128 + r % 64 := or128 _ (by omega) (by omega)
  have o3 : bits .or .i64 128 (r / 64 % 64) = 128 + r / 64 % 64 := or128 _ (by omega) (by omega)
  have hc := conv3
  go_enter Tryz.func126, Tryz.ntmps126
  go_wp2_with fail
  refine (ref02_Len _ _).mono ?_; rintro e w' ⟨rfl, rfl⟩; rw [H.out]
  go_wp2
  go_ret2
  exact ⟨ret2 (v_str (by unfold encS; rw [E.out]; apply congrArg strOfNums; simp only [List.cons.injEq, and_true]; omega)) rfl, (Below.refl _ _).alloc (Nat.le_refl _) _⟩
set_option maxHeartbeats 400000 in
theorem ref02_Put_4 (r : Int) (w : World) (hs : isSc r = true) (h1 : 65536 ≤ r) (h2 : r < 1114112):
    Calls Tryz.prog 126 #[.int .i64 r] w fun e w' => e = .returned (.tuple #[.string (encS r), .bool true]) ∧ Below w.heap.size w w' := by
  have H := Lib.hid (sLen_4 hs h1)
  have E := Lib.hid (encN_4 hs h1)
  clear hs
  have o1 : bits .or .i64 240 (r / 262144) = 240 + r / 262144 := or240 _ (by omega) (by omega)
  have o2 : bits .or .i64 128 (r % 64) = 128 + r % 64 := or128 _ (by omega) (by omega)
  have o3 : bits .or .i64 128 (r / 64 % 64) = 128 + r / 64 % 64 := or128 _ (by omega) (by omega)
  have o4 : bits .or .i64 128 (r / 4096 % 64) = 128 + r / 4096 % 64 := or128 _ (by omega) (by omega)
  have hc := conv4
  go_enter Tryz.func126, Tryz.ntmps126
  go_wp2_with fail
  refine (ref02_Len _ _).mono ?_; rintro e w' ⟨rfl, rfl⟩; rw [H.out]
  go_wp2
  go_ret2
  exact ⟨ret2 (v_str (by unfold encS; rw [E.out]; apply congrArg strOfNums; simp only [List.cons.injEq, and_true]; omega)) rfl, (Below.refl _ _).alloc (Nat.le_refl _) _⟩
theorem ref02_Put (r : Int) (w : World) :
    Calls Tryz.prog 126 #[.int .i64 r] w fun e w' => e = .returned (.tuple #[.string (encS r), .bool (isSc r)]) ∧ Below w.heap.size w w' := by
  cases hs : isSc r with
  | false => exact ref02_Put_0 r w hs
  | true =>
    have hb := isSc_bd hs
    by_cases h1 : r < 128
    · exact ref02_Put_1 r w hs (by omega) h1
    · by_cases h2 : r < 2048
      · exact ref02_Put_2 r w hs (by omega) h2
      · by_cases h3 : r < 65536
        · exact ref02_Put_3 r w hs (by omega) h3
        · exact ref02_Put_4 r w hs (by omega) (by omega)
end Go.Proofs.YthahfoliblgegaaGreatDoor
/- 
  The walks of utf8: follow, piece, Next, and the reference's lead, part, Next: what stands at a byte.
 -/
namespace Go.Proofs.YthahfoliblgegaaGreatDoor
open Go.RowKit
attribute [local go_sem] i64_and63 i64_and31 i64_and15 i64_and7
set_option maxHeartbeats 400000 in
theorem utf8_follow (c : Int) (w : World) (h0 : 0 ≤ c) (h1 : c < 256) :
    Calls Tryz.prog 152 #[.int .u8 c] w fun e w' => e = .returned (.tuple #[.int .i64 (fMore c), .int .i64 (fBits c), .int .u8 (fFrom c), .int .u8 (fTo c)]) ∧ w = w' := by
  go_enter Tryz.func152, Tryz.ntmps152
  go_wp2
  all_goals
    go_light
    (try simp only [beq_iff_eq, beq_eq_false_iff_ne] at *)
    refine bodyPost_ret (results_tmp4 rfl _ _ _) rfl ?_
    refine ⟨ret4 (v_int ?_) (v_int ?_) (v_int ?_) (v_int ?_), rfl⟩
    · unfold fMore; split <;> (try split) <;> (try split) <;> (try split) <;> first | rfl | omega
    · unfold fBits; split <;> (try split) <;> (try split) <;> (try split) <;> first | rfl | omega
    · unfold fFrom; split <;> (try split) <;> first | rfl | omega
    · unfold fTo; split <;> (try split) <;> first | rfl | omega
theorem index_str (s : ByteArray) (k : Nat) (h : k < s.size) (d i : Int) (hd : (s[k].toNat : Int) = d) (hi : i = k) (w : World) :
    (Instr.index 9 (.string s) (.int .i64 i)).run Tryz.prog w = .ok (.int .u8 d) w := by
  subst hi
  rw [run_index_string w _ _ _ _ Tryz.underlying9]
  simp [h, hd]
/-- the loop's relation: what is read so far leads to what the whole piece is. -/
def PieceAt (s : ByteArray) (k : Nat) (M : Nat) (r n fr to : Value) : Prop :=
  ∃ (ri fi ti : Int) (m : Nat), r = .int .i64 ri ∧ n = .int .i64 m ∧ fr = .int .u8 fi ∧ to = .int .u8 ti ∧ 1 ≤ m ∧ m ≤ M + 1 ∧ 0 ≤ ri ∧ 0 ≤ fi ∧ fi < 256 ∧ 0 ≤ ti ∧ ti < 256 ∧ (m = 1 → ri < 128) ∧ (m = 2 → ri < 8192) ∧ (m = 3 → ri < 524288) ∧ (m = 4 → ri < 33554432) ∧
    conts (M + 1 - m) ri fi ti m ((nums s).drop (k + m)) = piece ((nums s).drop k)
set_option maxHeartbeats 400000 in
theorem utf8_piece (s : ByteArray) (k : Nat) (w : World) (h0 : k < s.size) (h1 : s.size ≤ 1099511627776) :
    Calls Tryz.prog 128 #[.string s, .int .i64 k] w fun e w' => e = .returned (.tuple #[.int .i64 (piece ((nums s).drop k)).1, .int .i64 (piece ((nums s).drop k)).2]) ∧ w = w' := by
  have hd := nums_drop s k h0
  have hc0 : (s[k].toNat : Int) < 256 := by have := s[k].toNat_lt; omega
  generalize hc : (s[k].toNat : Int) = c at *
  have HD := Lib.hid hd
  have HC := Lib.hid hc
  clear hd hc
  have hc1 : 0 ≤ c := by rw [← HC.out]; omega
  have hm := fMore_lo c
  have hbb := fBits_lo c hc1
  have hff := fFrom_lo c
  have htt := fTo_lo c
  by_cases hneg : fMore c < 0
  · have HP := Lib.hid (show piece ((nums s).drop k) = (-1, 1) by rw [HD.out, piece, if_pos hneg])
    go_enter Tryz.func128, Tryz.ntmps128
    go_wp2_with fail
    go_step3
    go_wp2_with fail
    rw [HC.out]
    refine (utf8_follow c _ hc1 hc0).mono ?_
    rintro e w' ⟨rfl, rfl⟩
    go_wp2_with fail
    (try rw [Exit.noGoto_ret])
    go_ret2
    exact ⟨by rw [HP.out]; rfl, rfl⟩
  · obtain ⟨M, hM⟩ : ∃ M : Nat, fMore c = M := ⟨(fMore c).toNat, by omega⟩
    have HP := Lib.hid (show piece ((nums s).drop k) = conts M (fBits c) (fFrom c) (fTo c) 1 ((nums s).drop (k + 1)) by rw [HD.out, piece, if_neg hneg, hM]; simp)
    have hM3 : M ≤ 3 := by omega
    have HM := Lib.hid hM
    clear hM
    go_enter Tryz.func128, Tryz.ntmps128
    go_wp2_with fail
    go_step3
    go_wp2_with fail
    rw [HC.out]
    refine (utf8_follow c _ hc1 hc0).mono ?_
    rw [HM.out]
    rintro e w' ⟨rfl, rfl⟩
    go_wp2_with fail
    go_step3
    go_wp2_with fail
    go_loop [4, 5, 7, 8] (fun r n fr to => PieceAt s k M r n fr to) (fun _ n _ _ => 5 - (intOf n).toNat)
    case atStart => exact ⟨_, _, _, 1, rfl, rfl, rfl, rfl, by omega, by omega, by omega, by omega, by omega, by omega, by omega, by omega, by omega, by omega, by omega, by rw [HP.out]; rfl⟩
    case round =>
      obtain ⟨ri, fi, ti, m, rfl, rfl, rfl, rfl, hm1, hmM, hr0, hf0, hf1, ht0, ht1, b1, b2, b3, b4, hq⟩ := hrel
      have HQ := Lib.hid hq
      clear hq
      by_cases hM1 : m ≤ M
      · by_cases hs1 : k + m < s.size
        · obtain ⟨d, hdd⟩ : ∃ d : Int, (s[k + m].toNat : Int) = d := ⟨_, rfl⟩
          have hidx := index_str s (k + m) hs1 d (k + m) hdd (by simp)
          have hd2 : (nums s).drop (k + m) = d :: (nums s).drop (k + m + 1) := by rw [nums_drop s (k + m) hs1, hdd]
          have hx0 : 0 ≤ d ∧ d < 256 := by have := s[k + m].toNat_lt; omega
          clear hdd
          by_cases hw : d < fi ∨ ti < d
          · have hq2 : piece ((nums s).drop k) = (-1, m) := by
              rw [← HQ.out, hd2, show M + 1 - m = (M - m) + 1 by omega, conts, if_pos hw]
            have HQ2 := Lib.hid hq2
            clear hd2 hq2
            by_cases hw2 : d < fi
            · go_wp2
              (try rw [Exit.noGoto_ret])
              go_ret2
              exact ⟨by rw [HQ2.out]; rfl, rfl⟩
            · have hw1 : ti < d := by omega
              clear hw
              go_wp2
              (try rw [Exit.noGoto_ret])
              go_ret2
              exact ⟨by rw [HQ2.out]; rfl, rfl⟩
          · have hq2 : conts (M + 1 - (m + 1)) (ri * 64 + d % 64) 128 191 (m + 1) ((nums s).drop (k + (m + 1))) = piece ((nums s).drop k) := by
              rw [← HQ.out, hd2, show M + 1 - m = (M + 1 - (m + 1)) + 1 by omega, conts, if_neg hw]; rfl
            have HQ2 := Lib.hid hq2
            clear hd2 hq2
            have hw1 : fi ≤ d := by omega
            have hw2 : d ≤ ti := by omega
            clear hw
            have o1 : bits .or .i64 (ri * 64) (d % 64) = ri * 64 + d % 64 := i64_or6 _ _ (by omega) (by omega) (by omega) (by omega) (by omega)
            go_wp2
            exact ⟨⟨ri * 64 + d % 64, 128, 191, m + 1, rfl, by go_num, rfl, rfl, by omega, by omega, by omega, by omega, by omega, by omega, by omega, by omega, by omega, by omega, by omega, HQ2.out⟩, by simp [intOf]; omega⟩
        · go_wp2
          go_ret2
          exact ⟨by rw [← HQ.out, nums_drop_end s (k + m) (by omega), show M + 1 - m = (M - m) + 1 by omega, conts]; rfl, rfl⟩
      · go_wp2
        (try rw [Exit.noGoto_ret])
        go_ret2
        exact ⟨by rw [← HQ.out, show M + 1 - m = 0 by omega, conts]; rfl, rfl⟩
def nextR (s : ByteArray) (k : Int) : Int × Nat := if k < 0 ∨ (s.size : Int) ≤ k then (-1, 0) else if (piece ((nums s).drop k.toNat)).1 < 0 then (-1, 0) else piece ((nums s).drop k.toNat)
def pR (p : Int × Nat) : Int := if p.1 < 0 then 0 else p.1
def pOk (p : Int × Nat) : Bool := decide (0 ≤ p.1)
theorem pR_of {p : Int × Nat} (h : 0 ≤ p.1) : pR p = p.1 := if_neg (by omega)
theorem pOk_of {p : Int × Nat} (h : 0 ≤ p.1) : pOk p = true := decide_eq_true h
set_option maxHeartbeats 400000 in
theorem utf8_Next (s : ByteArray) (k : Int) (w : World) (h1 : s.size ≤ 1099511627776) :
    Calls Tryz.prog 88 #[.string s, .int .i64 k] w fun e w' => e = .returned (.tuple #[.int .i64 (pR (nextR s k)), .int .i64 (nextR s k).2, .bool (pOk (nextR s k))]) ∧ w = w' := by
  by_cases h0 : k < 0 ∨ (s.size : Int) ≤ k
  · have HN := Lib.hid (show nextR s k = (-1, 0) by unfold nextR; rw [if_pos h0])
    go_enter Tryz.func88, Tryz.ntmps88
    go_wp2_with fail
    all_goals
      go_ret3
      exact ⟨by rw [HN.out]; rfl, rfl⟩
  · obtain ⟨i, rfl⟩ := Int.eq_ofNat_of_zero_le (show 0 ≤ k by omega)
    have hi : i < s.size := by omega
    clear h0
    have hn := nums_drop s i hi
    by_cases hp : (piece ((nums s).drop i)).1 < 0
    · have HN := Lib.hid (show nextR s i = (-1, 0) by unfold nextR; rw [if_neg (by omega), Int.toNat_natCast, if_pos hp])
      clear hn
      generalize hg : piece ((nums s).drop i) = g at *
      have HG := Lib.hid hg
      clear hg
      go_enter Tryz.func88, Tryz.ntmps88
      go_wp2_with (go_at_call 128; refine (utf8_piece s i _ hi h1).mono ?_; rw [HG.out]; rintro e w' ⟨rfl, rfl⟩)
      go_ret3
      exact ⟨by rw [HN.out]; rfl, rfl⟩
    · have HN := Lib.hid (show nextR s i = piece ((nums s).drop i) by unfold nextR; rw [if_neg (by omega), Int.toNat_natCast, if_neg hp])
      clear hn
      generalize hg : piece ((nums s).drop i) = g at *
      have HG := Lib.hid hg
      clear hg
      go_enter Tryz.func88, Tryz.ntmps88
      go_wp2_with (go_at_call 128; refine (utf8_piece s i _ hi h1).mono ?_; rw [HG.out]; rintro e w' ⟨rfl, rfl⟩)
      go_ret3
      exact ⟨by rw [HN.out, pR_of hp, pOk_of hp]; rfl, rfl⟩
theorem fBits_1 {c : Int} (h : fMore c = 1) : fBits c = c % 32 := by revert h; unfold fMore fBits; (repeat' split) <;> intro h <;> first | omega | rfl
theorem fBits_2 {c : Int} (h : fMore c = 2) : fBits c = c % 16 := by revert h; unfold fMore fBits; (repeat' split) <;> intro h <;> first | omega | rfl
theorem fBits_3 {c : Int} (h : fMore c = 3) : fBits c = c % 8 := by revert h; unfold fMore fBits; (repeat' split) <;> intro h <;> first | omega | rfl
theorem fBits_0 {c : Int} (h : fMore c = 0) (h0 : 0 ≤ c) : fBits c = c % 128 := by revert h; unfold fMore fBits; (repeat' split) <;> intro h <;> omega
def lFrom (c : Int) : Int := if fMore c < 1 then 0 else fFrom c
def lTo (c : Int) : Int := if fMore c < 1 then 0 else fTo c
set_option maxHeartbeats 400000 in
theorem ref02_lead (c : Int) (w : World) (h0 : 0 ≤ c) (h1 : c < 256) :
    Calls Tryz.prog 125 #[.int .u8 c] w fun e w' => e = .returned (.tuple #[.int .i64 (fMore c), .int .u8 (lFrom c), .int .u8 (lTo c)]) ∧ w = w' := by
  go_enter Tryz.func125, Tryz.ntmps125
  go_wp2
  all_goals
    go_light
    (try simp only [beq_iff_eq, beq_eq_false_iff_ne] at *)
    refine bodyPost_ret (results_tmp3 rfl _ _ _) rfl ?_
    refine ⟨ret3 (v_int ?_) (v_int ?_) (v_int ?_), rfl⟩
    · unfold fMore; (repeat' split) <;> first | rfl | omega
    · unfold lFrom fFrom fMore; (repeat' split) <;> first | rfl | omega
    · unfold lTo fTo fMore; (repeat' split) <;> first | rfl | omega
set_option maxHeartbeats 1000000 in
theorem ref02_part (s : ByteArray) (k : Nat) (w : World) (h0 : k < s.size) (h1 : s.size ≤ 1099511627776) :
    Calls Tryz.prog 79 #[.string s, .int .i64 k] w fun e w' => e = .returned (.tuple #[.int .i64 (pR (piece ((nums s).drop k))), .int .i64 (piece ((nums s).drop k)).2, .bool (pOk (piece ((nums s).drop k)))]) ∧ w = w' := by
  have hd := nums_drop s k h0
  have hc0 : (s[k].toNat : Int) < 256 := by have := s[k].toNat_lt; omega
  obtain ⟨c, hc⟩ : ∃ c : Int, (s[k].toNat : Int) = c := ⟨_, rfl⟩
  have hidx := index_str s k h0 c k hc rfl
  rw [hc] at hd hc0
  have hc1 : 0 ≤ c := by omega
  clear hc
  have hm := fMore_lo c
  have hbb := fBits_lo c hc1
  by_cases hneg : fMore c < 0
  · have HP := Lib.hid (show piece ((nums s).drop k) = (-1, 1) by rw [hd, piece, if_pos hneg])
    clear hd
    go_enter Tryz.func79, Tryz.ntmps79
    go_wp2_with (go_at_call 125; refine (ref02_lead c _ hc1 hc0).mono ?_; rintro e w' ⟨rfl, rfl⟩)
    go_ret3
    exact ⟨by rw [HP.out]; rfl, rfl⟩
  · obtain ⟨M, hM⟩ : ∃ M : Nat, fMore c = M := ⟨(fMore c).toNat, by omega⟩
    have hM3 : M ≤ 3 := by omega
    have hlt : 0 ≤ lFrom c ∧ lFrom c < 256 ∧ 0 ≤ lTo c ∧ lTo c < 256 := by have := fFrom_lo c; have := fTo_lo c; unfold lFrom lTo; split <;> omega
    have hp : piece ((nums s).drop k) = conts M (fBits c) (lFrom c) (lTo c) 1 ((nums s).drop (k + 1)) := by
      rw [hd, piece, if_neg hneg, hM]
      by_cases h : M = 0
      · subst h; simp [conts]
      · unfold lFrom lTo; rw [if_neg (by omega), if_neg (by omega)]; simp
    have hbits : bits .and .i64 c (if M = 0 then 127 else if M = 1 then 31 else if M = 2 then 15 else 7) = fBits c := by
      rcases (show M = 0 ∨ M = 1 ∨ M = 2 ∨ M = 3 by omega) with rfl | rfl | rfl | rfl
      · rw [fBits_0 hM hc1]; exact i64_and_mask 7 (by decide) c
      · rw [fBits_1 hM]; exact i64_and31 c
      · rw [fBits_2 hM]; exact i64_and15 c
      · rw [fBits_3 hM]; exact i64_and7 c
    have HP := Lib.hid hp
    have HM := Lib.hid hM
    clear hM hd hp
    rcases (show M = 0 ∨ M = 1 ∨ M = 2 ∨ M = 3 by omega) with rfl | rfl | rfl | rfl
    · simp only [reduceIte, Nat.reduceEqDiff] at hbits
      go_enter Tryz.func79, Tryz.ntmps79
      go_wp2_with fail
      refine (ref02_lead c _ hc1 hc0).mono ?_
      rw [HM.out]
      rintro e w' ⟨rfl, rfl⟩
      go_wp2_with fail
      go_loop [11, 12, 8, 9] (fun r n fr to => PieceAt s k 0 r n fr to) (fun _ n _ _ => 5 - (intOf n).toNat)
      case atStart => exact ⟨_, _, _, 1, rfl, rfl, rfl, rfl, by omega, by omega, by omega, by omega, by omega, by omega, by omega, by omega, by omega, by omega, by omega, by rw [HP.out]⟩
      case round =>
        obtain ⟨ri, fi, ti, m, rfl, rfl, rfl, rfl, hm1, hmM, hr0, hf0, hf1, ht0, ht1, b1, b2, b3, b4, hq⟩ := hrel
        have HQ := Lib.hid hq
        clear hq hidx
        obtain rfl : m = 1 := by omega
        have hq2 : piece ((nums s).drop k) = (ri, 0 + 1) := by
          rw [← HQ.out, conts]
        have HQ2 := Lib.hid hq2
        clear hq2
        go_wp2
        go_ret3
        exact ⟨by rw [HQ2.out, pR_of (p := (ri, _)) hr0, pOk_of (p := (ri, _)) hr0]; rfl, rfl⟩
    · simp only [reduceIte, Nat.reduceEqDiff] at hbits
      go_enter Tryz.func79, Tryz.ntmps79
      go_wp2_with fail
      refine (ref02_lead c _ hc1 hc0).mono ?_
      rw [HM.out]
      rintro e w' ⟨rfl, rfl⟩
      go_wp2_with fail
      go_loop [11, 12, 8, 9] (fun r n fr to => PieceAt s k 1 r n fr to) (fun _ n _ _ => 5 - (intOf n).toNat)
      case atStart => exact ⟨_, _, _, 1, rfl, rfl, rfl, rfl, by omega, by omega, by omega, by omega, by omega, by omega, by omega, by omega, by omega, by omega, by omega, by rw [HP.out]⟩
      case round =>
        obtain ⟨ri, fi, ti, m, rfl, rfl, rfl, rfl, hm1, hmM, hr0, hf0, hf1, ht0, ht1, b1, b2, b3, b4, hq⟩ := hrel
        have HQ := Lib.hid hq
        clear hq hidx
        by_cases hM1 : m ≤ 1
        · by_cases hs1 : k + m < s.size
          · obtain ⟨d, hdd⟩ : ∃ d : Int, (s[k + m].toNat : Int) = d := ⟨_, rfl⟩
            have hidx := index_str s (k + m) hs1 d (k + m) hdd (by simp)
            have hd2 : (nums s).drop (k + m) = d :: (nums s).drop (k + m + 1) := by rw [nums_drop s (k + m) hs1, hdd]
            have hx0 : 0 ≤ d ∧ d < 256 := by have := s[k + m].toNat_lt; omega
            clear hdd
            by_cases hw : d < fi ∨ ti < d
            · have hq2 : piece ((nums s).drop k) = (-1, m) := by
                rw [← HQ.out, hd2, show 1 + 1 - m = (1 - m) + 1 by omega, conts, if_pos hw]
              have HQ2 := Lib.hid hq2
              clear hd2 hq2
              by_cases hw2 : d < fi
              · go_wp2
                go_ret3
                exact ⟨by rw [HQ2.out]; rfl, rfl⟩
              · have hw1 : ti < d := by omega
                clear hw
                go_wp2
                go_ret3
                exact ⟨by rw [HQ2.out]; rfl, rfl⟩
            · have hq2 : conts (1 + 1 - (m + 1)) (ri * 64 + d % 64) 128 191 (m + 1) ((nums s).drop (k + (m + 1))) = piece ((nums s).drop k) := by
                rw [← HQ.out, hd2, show 1 + 1 - m = (1 + 1 - (m + 1)) + 1 by omega, conts, if_neg hw]; rfl
              have HQ2 := Lib.hid hq2
              clear hd2 hq2
              have hw1 : fi ≤ d := by omega
              have hw2 : d ≤ ti := by omega
              clear hw
              have o1 : bits .or .i64 (ri * 64) (d % 64) = ri * 64 + d % 64 := i64_or6 _ _ (by omega) (by omega) (by omega) (by omega) (by omega)
              go_wp2
              exact ⟨⟨ri * 64 + d % 64, 128, 191, m + 1, rfl, by go_num, rfl, rfl, by omega, by omega, by omega, by omega, by omega, by omega, by omega, by omega, by omega, by omega, by omega, HQ2.out⟩, by simp [intOf]; omega⟩
          · have hq2 : piece ((nums s).drop k) = (-1, m) := by
              rw [← HQ.out, nums_drop_end s (k + m) (by omega), show 1 + 1 - m = (1 - m) + 1 by omega, conts]
            have HQ2 := Lib.hid hq2
            clear hq2
            go_wp2
            go_ret3
            exact ⟨by rw [HQ2.out]; rfl, rfl⟩
        · have hq2 : piece ((nums s).drop k) = (ri, 1 + 1) := by
            rw [← HQ.out, show m = 1 + 1 by omega, show 1 + 1 - (1 + 1) = 0 by omega, conts]
          have HQ2 := Lib.hid hq2
          clear hq2
          go_wp2
          go_ret3
          exact ⟨by rw [HQ2.out, pR_of (p := (ri, _)) hr0, pOk_of (p := (ri, _)) hr0]; rfl, rfl⟩
    · simp only [reduceIte, Nat.reduceEqDiff] at hbits
      go_enter Tryz.func79, Tryz.ntmps79
      go_wp2_with fail
      refine (ref02_lead c _ hc1 hc0).mono ?_
      rw [HM.out]
      rintro e w' ⟨rfl, rfl⟩
      go_wp2_with fail
      go_loop [11, 12, 8, 9] (fun r n fr to => PieceAt s k 2 r n fr to) (fun _ n _ _ => 5 - (intOf n).toNat)
      case atStart => exact ⟨_, _, _, 1, rfl, rfl, rfl, rfl, by omega, by omega, by omega, by omega, by omega, by omega, by omega, by omega, by omega, by omega, by omega, by rw [HP.out]⟩
      case round =>
        obtain ⟨ri, fi, ti, m, rfl, rfl, rfl, rfl, hm1, hmM, hr0, hf0, hf1, ht0, ht1, b1, b2, b3, b4, hq⟩ := hrel
        have HQ := Lib.hid hq
        clear hq hidx
        by_cases hM1 : m ≤ 2
        · by_cases hs1 : k + m < s.size
          · obtain ⟨d, hdd⟩ : ∃ d : Int, (s[k + m].toNat : Int) = d := ⟨_, rfl⟩
            have hidx := index_str s (k + m) hs1 d (k + m) hdd (by simp)
            have hd2 : (nums s).drop (k + m) = d :: (nums s).drop (k + m + 1) := by rw [nums_drop s (k + m) hs1, hdd]
            have hx0 : 0 ≤ d ∧ d < 256 := by have := s[k + m].toNat_lt; omega
            clear hdd
            by_cases hw : d < fi ∨ ti < d
            · have hq2 : piece ((nums s).drop k) = (-1, m) := by
                rw [← HQ.out, hd2, show 2 + 1 - m = (2 - m) + 1 by omega, conts, if_pos hw]
              have HQ2 := Lib.hid hq2
              clear hd2 hq2
              by_cases hw2 : d < fi
              · go_wp2
                go_ret3
                exact ⟨by rw [HQ2.out]; rfl, rfl⟩
              · have hw1 : ti < d := by omega
                clear hw
                go_wp2
                go_ret3
                exact ⟨by rw [HQ2.out]; rfl, rfl⟩
            · have hq2 : conts (2 + 1 - (m + 1)) (ri * 64 + d % 64) 128 191 (m + 1) ((nums s).drop (k + (m + 1))) = piece ((nums s).drop k) := by
                rw [← HQ.out, hd2, show 2 + 1 - m = (2 + 1 - (m + 1)) + 1 by omega, conts, if_neg hw]; rfl
              have HQ2 := Lib.hid hq2
              clear hd2 hq2
              have hw1 : fi ≤ d := by omega
              have hw2 : d ≤ ti := by omega
              clear hw
              have o1 : bits .or .i64 (ri * 64) (d % 64) = ri * 64 + d % 64 := i64_or6 _ _ (by omega) (by omega) (by omega) (by omega) (by omega)
              go_wp2
              exact ⟨⟨ri * 64 + d % 64, 128, 191, m + 1, rfl, by go_num, rfl, rfl, by omega, by omega, by omega, by omega, by omega, by omega, by omega, by omega, by omega, by omega, by omega, HQ2.out⟩, by simp [intOf]; omega⟩
          · have hq2 : piece ((nums s).drop k) = (-1, m) := by
              rw [← HQ.out, nums_drop_end s (k + m) (by omega), show 2 + 1 - m = (2 - m) + 1 by omega, conts]
            have HQ2 := Lib.hid hq2
            clear hq2
            go_wp2
            go_ret3
            exact ⟨by rw [HQ2.out]; rfl, rfl⟩
        · have hq2 : piece ((nums s).drop k) = (ri, 2 + 1) := by
            rw [← HQ.out, show m = 2 + 1 by omega, show 2 + 1 - (2 + 1) = 0 by omega, conts]
          have HQ2 := Lib.hid hq2
          clear hq2
          go_wp2
          go_ret3
          exact ⟨by rw [HQ2.out, pR_of (p := (ri, _)) hr0, pOk_of (p := (ri, _)) hr0]; rfl, rfl⟩
    · simp only [reduceIte, Nat.reduceEqDiff] at hbits
      go_enter Tryz.func79, Tryz.ntmps79
      go_wp2_with fail
      refine (ref02_lead c _ hc1 hc0).mono ?_
      rw [HM.out]
      rintro e w' ⟨rfl, rfl⟩
      go_wp2_with fail
      go_loop [11, 12, 8, 9] (fun r n fr to => PieceAt s k 3 r n fr to) (fun _ n _ _ => 5 - (intOf n).toNat)
      case atStart => exact ⟨_, _, _, 1, rfl, rfl, rfl, rfl, by omega, by omega, by omega, by omega, by omega, by omega, by omega, by omega, by omega, by omega, by omega, by rw [HP.out]⟩
      case round =>
        obtain ⟨ri, fi, ti, m, rfl, rfl, rfl, rfl, hm1, hmM, hr0, hf0, hf1, ht0, ht1, b1, b2, b3, b4, hq⟩ := hrel
        have HQ := Lib.hid hq
        clear hq hidx
        by_cases hM1 : m ≤ 3
        · by_cases hs1 : k + m < s.size
          · obtain ⟨d, hdd⟩ : ∃ d : Int, (s[k + m].toNat : Int) = d := ⟨_, rfl⟩
            have hidx := index_str s (k + m) hs1 d (k + m) hdd (by simp)
            have hd2 : (nums s).drop (k + m) = d :: (nums s).drop (k + m + 1) := by rw [nums_drop s (k + m) hs1, hdd]
            have hx0 : 0 ≤ d ∧ d < 256 := by have := s[k + m].toNat_lt; omega
            clear hdd
            by_cases hw : d < fi ∨ ti < d
            · have hq2 : piece ((nums s).drop k) = (-1, m) := by
                rw [← HQ.out, hd2, show 3 + 1 - m = (3 - m) + 1 by omega, conts, if_pos hw]
              have HQ2 := Lib.hid hq2
              clear hd2 hq2
              by_cases hw2 : d < fi
              · go_wp2
                go_ret3
                exact ⟨by rw [HQ2.out]; rfl, rfl⟩
              · have hw1 : ti < d := by omega
                clear hw
                go_wp2
                go_ret3
                exact ⟨by rw [HQ2.out]; rfl, rfl⟩
            · have hq2 : conts (3 + 1 - (m + 1)) (ri * 64 + d % 64) 128 191 (m + 1) ((nums s).drop (k + (m + 1))) = piece ((nums s).drop k) := by
                rw [← HQ.out, hd2, show 3 + 1 - m = (3 + 1 - (m + 1)) + 1 by omega, conts, if_neg hw]; rfl
              have HQ2 := Lib.hid hq2
              clear hd2 hq2
              have hw1 : fi ≤ d := by omega
              have hw2 : d ≤ ti := by omega
              clear hw
              have o1 : bits .or .i64 (ri * 64) (d % 64) = ri * 64 + d % 64 := i64_or6 _ _ (by omega) (by omega) (by omega) (by omega) (by omega)
              go_wp2
              exact ⟨⟨ri * 64 + d % 64, 128, 191, m + 1, rfl, by go_num, rfl, rfl, by omega, by omega, by omega, by omega, by omega, by omega, by omega, by omega, by omega, by omega, by omega, HQ2.out⟩, by simp [intOf]; omega⟩
          · have hq2 : piece ((nums s).drop k) = (-1, m) := by
              rw [← HQ.out, nums_drop_end s (k + m) (by omega), show 3 + 1 - m = (3 - m) + 1 by omega, conts]
            have HQ2 := Lib.hid hq2
            clear hq2
            go_wp2
            go_ret3
            exact ⟨by rw [HQ2.out]; rfl, rfl⟩
        · have hq2 : piece ((nums s).drop k) = (ri, 3 + 1) := by
            rw [← HQ.out, show m = 3 + 1 by omega, show 3 + 1 - (3 + 1) = 0 by omega, conts]
          have HQ2 := Lib.hid hq2
          clear hq2
          go_wp2
          go_ret3
          exact ⟨by rw [HQ2.out, pR_of (p := (ri, _)) hr0, pOk_of (p := (ri, _)) hr0]; rfl, rfl⟩
end Go.Proofs.YthahfoliblgegaaGreatDoor
/- 
  UTF-8 in plain terms: a text's pieces, its scalars, scalars as text, bytes told loosely. No program in sight.
 -/
namespace Go.Proofs.YthahfoliblgegaaGreatDoor
/-- the pieces of bytes, by fuel. -/
def pcs : Nat → List Int → List (Int × Nat)
  | 0, _ => []
  | _ + 1, [] => []
  | f + 1, c :: t => piece (c :: t) :: pcs f ((c :: t).drop (piece (c :: t)).2)
def pieces (l : List Int) : List (Int × Nat) := pcs l.length l
theorem pcs_nil (f : Nat) : pcs f [] = [] := by cases f <;> rfl
theorem pcs_fuel : ∀ (f g : Nat) (l : List Int), l.length ≤ f → l.length ≤ g → pcs f l = pcs g l
  | 0, g, l, hf, _ => by
    obtain rfl : l = [] := List.eq_nil_of_length_eq_zero (by omega)
    rw [pcs_nil, pcs_nil]
  | f + 1, g, [], _, _ => by rw [pcs_nil, pcs_nil]
  | f + 1, 0, c :: t, _, hg => by simp at hg
  | f + 1, g + 1, c :: t, hf, hg => by
    rw [pcs, pcs]
    have hn := piece_n c t
    simp only [List.length_cons] at hf hg hn
    rw [pcs_fuel f g ((c :: t).drop (piece (c :: t)).2) (by rw [List.length_drop, List.length_cons]; omega) (by rw [List.length_drop, List.length_cons]; omega)]
theorem pieces_nil : pieces [] = [] := rfl
theorem pieces_cons (c : Int) (t : List Int) : pieces (c :: t) = piece (c :: t) :: pieces ((c :: t).drop (piece (c :: t)).2) := by
  unfold pieces
  rw [List.length_cons, pcs]
  have hn := piece_n c t
  simp only [List.length_cons] at hn
  rw [pcs_fuel t.length _ ((c :: t).drop (piece (c :: t)).2) (by rw [List.length_drop, List.length_cons]; omega) (Nat.le_refl _)]
theorem pieces_ne (l : List Int) (h : l ≠ []) : pieces l = piece l :: pieces (l.drop (piece l).2) := by
  cases l with
  | nil => exact absurd rfl h
  | cons c t => exact pieces_cons c t
def okP (p : Int × Nat) : Bool := decide (0 ≤ p.1)
def okAll (l : List Int) : Bool := (pieces l).all okP
/-- a text's scalars, if it is right. -/
def scalL (l : List Int) : List Int := if okAll l then (pieces l).map (·.1) else []
/-- what stands for a piece in text that is told loosely. -/
def mend (p : Int × Nat) : List Int := if p.1 < 0 then [239, 191, 189] else encN p.1
def looseN (l : List Int) : List Int := (pieces l).flatMap mend
/-- where the first wrong piece begins, counted from 'at'; -1: there is none. -/
def firstP : Nat → List (Int × Nat) → Int
  | _, [] => -1
  | a, p :: r => if p.1 < 0 then a else firstP (a + p.2) r
def firstN (l : List Int) : Int := firstP 0 (pieces l)
def scAll (xs : List Int) : Bool := xs.all isSc
def encAll (xs : List Int) : List Int := xs.flatMap encN
def textS (xs : List Int) : ByteArray := if scAll xs then strOfNums (encAll xs) else strOfNums []
theorem encN_len (r : Int) : (encN r).length ≤ 4 := by unfold encN; (repeat' split) <;> simp
theorem encAll_len (xs : List Int) : (encAll xs).length ≤ 4 * xs.length := by
  induction xs with
  | nil => simp [encAll]
  | cons x xs ih =>
    have := encN_len x
    simp only [encAll, List.flatMap_cons, List.length_append, List.length_cons] at *
    omega
theorem mend_len (p : Int × Nat) : (mend p).length ≤ 4 := by unfold mend; split; · simp
                                                             · exact encN_len _
theorem pieces_len : ∀ (f : Nat) (l : List Int), (pcs f l).length ≤ l.length
  | 0, l => by simp [pcs]
  | f + 1, [] => by simp [pcs]
  | f + 1, c :: t => by
    rw [pcs]
    have hn := piece_n c t
    have := pieces_len f ((c :: t).drop (piece (c :: t)).2)
    rw [List.length_drop] at this
    simp only [List.length_cons] at *
    omega
theorem flatMap_len {α : Type} (f : α → List Int) (n : Nat) (hf : ∀ a, (f a).length ≤ n) : ∀ l : List α, (l.flatMap f).length ≤ n * l.length
  | [] => by simp
  | a :: l => by
    have := flatMap_len f n hf l
    have := hf a
    rw [List.flatMap_cons, List.length_append, List.length_cons, Nat.mul_add]
    omega
theorem looseN_len (l : List Int) : (looseN l).length ≤ 4 * l.length := by
  have h1 := flatMap_len mend 4 mend_len (pieces l)
  have h2 := pieces_len l.length l
  unfold looseN pieces at *
  omega
theorem strOfNums_nums (s : ByteArray) : strOfNums (nums s) = s := by
  unfold strOfNums nums
  rw [List.map_map]
  have : (fun n : Int => UInt8.ofNat n.toNat) ∘ (fun c : UInt8 => (c.toNat : Int)) = id := by funext c; simp
  rw [this, List.map_id]
/-- numbers that are bytes. -/
def isBs (l : List Int) : Prop := ∀ x ∈ l, 0 ≤ x ∧ x < 256
theorem nums_strOfNums (l : List Int) (h : isBs l) : nums (strOfNums l) = l := by
  unfold nums
  rw [strOfNums_data, List.map_map]
  conv => rhs; rw [← List.map_id l]
  apply List.map_congr_left
  intro x hx
  have := h x hx
  show ((UInt8.ofNat x.toNat).toNat : Int) = x
  rw [UInt8.toNat_ofNat']
  omega
theorem nums_isBs (s : ByteArray) : isBs (nums s) := by
  intro x hx
  obtain ⟨c, _, rfl⟩ := List.mem_map.1 hx
  have := c.toNat_lt
  omega
end Go.Proofs.YthahfoliblgegaaGreatDoor
/- 
  UTF-8 in plain terms: a right piece is what its scalar makes, and the other way round. No program in sight.
 -/
namespace Go.Proofs.YthahfoliblgegaaGreatDoor
theorem isSc_iff (r : Int) : isSc r = true ↔ 0 ≤ r ∧ r ≤ 1114111 ∧ (r < 55296 ∨ 57343 < r) := by unfold isSc; exact decide_eq_true_iff
theorem fMore_0 {c : Int} (h : c < 128) : fMore c = 0 := if_pos h
theorem fMore_bad {c : Int} (h : 128 ≤ c) (h' : c < 194 ∨ 244 < c) : fMore c = -1 := by unfold fMore; rw [if_neg (by omega), if_pos h']
theorem fMore_1 {c : Int} (h : 194 ≤ c) (h' : c < 224) : fMore c = 1 := by unfold fMore; rw [if_neg (by omega), if_neg (by omega), if_pos h']
theorem fMore_2 {c : Int} (h : 224 ≤ c) (h' : c < 240) : fMore c = 2 := by unfold fMore; rw [if_neg (by omega), if_neg (by omega), if_neg (by omega), if_pos h']
theorem fMore_3 {c : Int} (h : 240 ≤ c) (h' : c ≤ 244) : fMore c = 3 := by unfold fMore; rw [if_neg (by omega), if_neg (by omega), if_neg (by omega), if_neg (by omega)]
theorem fBits_0' {c : Int} (h : c < 128) : fBits c = c := if_pos h
theorem fBits_1' {c : Int} (h : 194 ≤ c) (h' : c < 224) : fBits c = c % 32 := by unfold fBits; rw [if_neg (by omega), if_neg (by omega), if_pos h']
theorem fBits_2' {c : Int} (h : 224 ≤ c) (h' : c < 240) : fBits c = c % 16 := by unfold fBits; rw [if_neg (by omega), if_neg (by omega), if_neg (by omega), if_pos h']
theorem fBits_3' {c : Int} (h : 240 ≤ c) (h' : c ≤ 244) : fBits c = c % 8 := by unfold fBits; rw [if_neg (by omega), if_neg (by omega), if_neg (by omega), if_neg (by omega)]
theorem fFrom_def (c : Int) : (c = 224 → fFrom c = 160) ∧ (c = 240 → fFrom c = 144) ∧ (c ≠ 224 → c ≠ 240 → fFrom c = 128) := by
  unfold fFrom; refine ⟨fun h => if_pos h, fun h => ?_, fun h h' => ?_⟩
  · rw [if_neg (by omega), if_pos h]
  · rw [if_neg h, if_neg h']
theorem fTo_def (c : Int) : (c = 237 → fTo c = 159) ∧ (c = 244 → fTo c = 143) ∧ (c ≠ 237 → c ≠ 244 → fTo c = 191) := by
  unfold fTo; refine ⟨fun h => if_pos h, fun h => ?_, fun h h' => ?_⟩
  · rw [if_neg (by omega), if_pos h]
  · rw [if_neg h, if_neg h']
theorem encN_a {r : Int} (h0 : 0 ≤ r) (h : r < 128) : encN r = [r] := by
  unfold encN; rw [if_neg (by rw [(isSc_iff r).2 (by omega)]; decide), if_pos h]
theorem encN_b {r : Int} (h1 : 128 ≤ r) (h2 : r < 2048) : encN r = [192 + r / 64, 128 + r % 64] := by
  unfold encN; rw [if_neg (by rw [(isSc_iff r).2 (by omega)]; decide), if_neg (by omega), if_pos h2]
theorem encN_c {r : Int} (h1 : 2048 ≤ r) (h2 : r < 65536) (h3 : r < 55296 ∨ 57343 < r) : encN r = [224 + r / 64 / 64, 128 + r / 64 % 64, 128 + r % 64] := by
  unfold encN; rw [if_neg (by rw [(isSc_iff r).2 (by omega)]; decide), if_neg (by omega), if_neg (by omega), if_pos h2]
theorem encN_d {r : Int} (h1 : 65536 ≤ r) (h2 : r ≤ 1114111) : encN r = [240 + r / 64 / 64 / 64, 128 + r / 64 / 64 % 64, 128 + r / 64 % 64, 128 + r % 64] := by
  unfold encN; rw [if_neg (by rw [(isSc_iff r).2 (by omega)]; decide), if_neg (by omega), if_neg (by omega), if_neg (by omega)]
theorem encN_none {r : Int} (h : isSc r = false) : encN r = [] := if_pos h
/-- a right piece is what its scalar makes. -/
theorem piece_enc (l : List Int) (hb : isBs l) (h0 : 0 ≤ (piece l).1) : isSc (piece l).1 = true ∧ encN (piece l).1 = l.take (piece l).2 := by
  cases l with
  | nil => simp [piece] at h0
  | cons c t =>
    have hc := hb c (by simp)
    rw [piece] at h0 ⊢
    have hf := fFrom_def c
    have ht := fTo_def c
    by_cases c0 : c < 128
    · rw [fMore_0 c0, fBits_0' c0] at *
      rw [if_neg (by omega)] at h0 ⊢
      simp only [Int.toNat_zero, conts] at h0 ⊢
      exact ⟨(isSc_iff c).2 (by omega), by rw [encN_a (by omega) c0]; rfl⟩
    · by_cases c1 : c < 194 ∨ 244 < c
      · rw [fMore_bad (by omega) c1] at h0
        simp at h0
      · by_cases c2 : c < 224
        · rw [fMore_1 (by omega) c2, fBits_1' (by omega) c2] at *
          rw [if_neg (by omega)] at h0 ⊢
          rw [show (1 : Int).toNat = 0 + 1 from rfl] at h0 ⊢
          cases t with
          | nil => simp [conts] at h0
          | cons d t =>
            rw [conts] at h0 ⊢
            by_cases w1 : d < fFrom c ∨ fTo c < d
            · rw [if_pos w1] at h0; simp at h0
            · rw [if_neg w1] at h0 ⊢
              rw [conts] at h0 ⊢
              refine ⟨(isSc_iff _).2 (by omega), ?_⟩
              rw [encN_b (by omega) (by omega)]
              show [_, _] = [c, d]
              simp only [List.cons.injEq, and_true]
              omega
        · by_cases c3 : c < 240
          · rw [fMore_2 (by omega) c3, fBits_2' (by omega) c3] at *
            rw [if_neg (by omega)] at h0 ⊢
            rw [show (2 : Int).toNat = 1 + 1 from rfl] at h0 ⊢
            cases t with
            | nil => simp [conts] at h0
            | cons d t =>
              rw [conts] at h0 ⊢
              by_cases w1 : d < fFrom c ∨ fTo c < d
              · rw [if_pos w1] at h0; simp at h0
              · rw [if_neg w1] at h0 ⊢
                rw [show 1 = 0 + 1 from rfl] at h0 ⊢
                cases t with
                | nil => simp [conts] at h0
                | cons e t =>
                  rw [conts] at h0 ⊢
                  by_cases w2 : e < 128 ∨ 191 < e
                  · rw [if_pos w2] at h0; simp at h0
                  · rw [if_neg w2] at h0 ⊢
                    rw [conts] at h0 ⊢
                    refine ⟨(isSc_iff _).2 (by omega), ?_⟩
                    rw [encN_c (by omega) (by omega) (by omega)]
                    show [_, _, _] = [c, d, e]
                    simp only [List.cons.injEq, and_true]
                    omega
          · rw [fMore_3 (by omega) (by omega), fBits_3' (by omega) (by omega)] at *
            rw [if_neg (by omega)] at h0 ⊢
            rw [show (3 : Int).toNat = 2 + 1 from rfl] at h0 ⊢
            cases t with
            | nil => simp [conts] at h0
            | cons d t =>
              rw [conts] at h0 ⊢
              by_cases w1 : d < fFrom c ∨ fTo c < d
              · rw [if_pos w1] at h0; simp at h0
              · rw [if_neg w1] at h0 ⊢
                rw [show 2 = 1 + 1 from rfl] at h0 ⊢
                cases t with
                | nil => simp [conts] at h0
                | cons e t =>
                  rw [conts] at h0 ⊢
                  by_cases w2 : e < 128 ∨ 191 < e
                  · rw [if_pos w2] at h0; simp at h0
                  · rw [if_neg w2] at h0 ⊢
                    cases t with
                    | nil => simp [conts] at h0
                    | cons f t =>
                      rw [conts] at h0 ⊢
                      by_cases w3 : f < 128 ∨ 191 < f
                      · rw [if_pos w3] at h0; simp at h0
                      · rw [if_neg w3] at h0 ⊢
                        rw [conts] at h0 ⊢
                        refine ⟨(isSc_iff _).2 (by omega), ?_⟩
                        rw [encN_d (by omega) (by omega)]
                        show [_, _, _, _] = [c, d, e, f]
                        simp only [List.cons.injEq, and_true]
                        omega
/-- what a scalar makes is read as it, whatever stands behind. -/
theorem piece_of_enc (r : Int) (h : isSc r = true) (t : List Int) : piece (encN r ++ t) = (r, (encN r).length) := by
  have hr := (isSc_iff r).1 h
  by_cases r0 : r < 128
  · rw [encN_a (by omega) r0]
    show piece (r :: t) = _
    rw [piece, fMore_0 r0, fBits_0' r0, if_neg (by omega)]
    rfl
  · by_cases r1 : r < 2048
    · rw [encN_b (by omega) r1]
      show piece (_ :: _ :: t) = _
      have hf := fFrom_def (192 + r / 64)
      have ht := fTo_def (192 + r / 64)
      rw [piece, fMore_1 (by omega) (by omega), fBits_1' (by omega) (by omega), if_neg (by omega), show (1 : Int).toNat = 0 + 1 from rfl, conts, if_neg (by omega), conts]
      simp only [List.length_cons, List.length_nil, Prod.mk.injEq, and_true]
      omega
    · by_cases r2 : r < 65536
      · rw [encN_c (by omega) r2 (by omega)]
        show piece (_ :: _ :: _ :: t) = _
        have hf := fFrom_def (224 + r / 64 / 64)
        have ht := fTo_def (224 + r / 64 / 64)
        rw [piece, fMore_2 (by omega) (by omega), fBits_2' (by omega) (by omega), if_neg (by omega), show (2 : Int).toNat = 1 + 1 from rfl, conts, if_neg (by omega), conts, if_neg (by omega), conts]
        simp only [List.length_cons, List.length_nil, Prod.mk.injEq, and_true]
        omega
      · rw [encN_d (by omega) (by omega)]
        show piece (_ :: _ :: _ :: _ :: t) = _
        have hf := fFrom_def (240 + r / 64 / 64 / 64)
        have ht := fTo_def (240 + r / 64 / 64 / 64)
        rw [piece, fMore_3 (by omega) (by omega), fBits_3' (by omega) (by omega), if_neg (by omega), show (3 : Int).toNat = 2 + 1 from rfl, conts, if_neg (by omega), conts, if_neg (by omega), conts, if_neg (by omega), conts]
        simp only [List.length_cons, List.length_nil, Prod.mk.injEq, and_true]
        omega
end Go.Proofs.YthahfoliblgegaaGreatDoor
