/-
  Parts Base U8P U8A U8B U8C Sl U8Q By Lo Nu Im of this seat's texts, in one file: contracts of functions that the law reaches, and the plain laws behind them. No condition.
-/
import Derived.Test.YteefopeclfojiaaRows
import Derived.WalkKit
import Derived.WalkSpells
import Derived.WalkLawsBesides
import Derived.Lib.Hide
import Derived.Deep.Light
import Derived.Deep.QuietTactic
import Derived.BigQuiet
import Derived.Laws.BytesArg
import Derived.Lib.AppendStr
import Derived.Lib.ConvBytes
import Derived.Lib.BufferMore
import Derived.Lib.CutLaws
import Derived.Maps.OwnOps
/- 
  Small laws that every walk of this seat uses: what a call hands back, bits, bytes as text.
 -/
namespace Go.Proofs.Yteefopeclfojiaa
open Go.RowKit
theorem ret_bool {a b : Bool} (h : a = b) : Ending.returned (.bool a) = .returned (.bool b) := by rw [h]
theorem ret_int {k : IntKind} {a b : Int} (h : a = b) : Ending.returned (.int k a) = .returned (.int k b) := by rw [h]
theorem ret_str {a b : ByteArray} (h : a = b) : Ending.returned (.string a) = .returned (.string b) := by rw [h]
theorem ret2 {a b c d : Value} (h : a = c) (h' : b = d) : Ending.returned (.tuple #[a, b]) = .returned (.tuple #[c, d]) := by rw [h, h']
theorem ret3 {a b c x y z : Value} (h : a = x) (h' : b = y) (h'' : c = z) : Ending.returned (.tuple #[a, b, c]) = .returned (.tuple #[x, y, z]) := by rw [h, h', h'']
theorem ret4 {a b c d x y z u : Value} (h : a = x) (h' : b = y) (h'' : c = z) (h3 : d = u) : Ending.returned (.tuple #[a, b, c, d]) = .returned (.tuple #[x, y, z, u]) := by rw [h, h', h'', h3]
theorem v_bool {a b : Bool} (h : a = b) : Value.bool a = .bool b := by rw [h]
theorem v_int {k : IntKind} {a b : Int} (h : a = b) : Value.int k a = .int k b := by rw [h]
theorem v_str {a b : ByteArray} (h : a = b) : Value.string a = .string b := by rw [h]
theorem results_tmp4 {fn : Func} {t u v x : Tmp} (h : fn.results = #[.tmp t, .tmp u, .tmp v, .tmp x]) (tmps : Array Value) (P : Program) (w : World) :
    (results fn tmps).run P w = .ok (.tuple #[tmps.getD t undef, tmps.getD u undef, tmps.getD v undef, tmps.getD x undef]) w := by
  simp [results, h]
theorem bcell {W w1 : World} {B : Nat} (hb : Below B W w1) : (∀ b o, b < B → w1.cell? ⟨b, o, none⟩ = W.cell? ⟨b, o, none⟩) ∧ (∀ b o, b < B → w1.frozen? ⟨b, o, none⟩ = W.frozen? ⟨b, o, none⟩) :=
  ⟨fun b o h => hb.cell (p := ⟨b, o, none⟩) h, fun b o h => hb.frozen (p := ⟨b, o, none⟩) h⟩
theorem below_dn {B : Nat} {a w : World} (h : Below B a w) (n : Nat) : Below B a (w.drewN n) := ⟨h.os, h.tape, h.output, h.size, h.block⟩
/-! bits of an int -/
theorem wraps_i64 (n : Int) (h₀ : 0 ≤ n) (h₁ : n < 2 ^ 62) : IntKind.i64.wrap n = n := by rw [IntKind.wrap_i64]; omega
theorem i64_and_mask (i : Nat) (hi : i < 62) (n : Int) : bits .and .i64 n (2 ^ i - 1) = n % 2 ^ i := by
  have hp : (2 : Nat) ^ i < 2 ^ 62 := Nat.pow_lt_pow_right (by decide) hi
  have hpos : 0 < 2 ^ i := Nat.two_pow_pos i
  have h127 : (BitVec.ofInt 64 (2 ^ i - 1)).toNat = 2 ^ i - 1 := by
    have e : ((2 : Int) ^ i - 1) = ((2 ^ i - 1 : Nat) : Int) := by
      rw [Int.natCast_sub (by omega)]; simp
    rw [e, BitVec.toNat_ofInt]
    omega
  have hdvd : (2 : Nat) ^ i ∣ 2 ^ 64 := Nat.pow_dvd_pow 2 (by omega)
  have key : (BitVec.ofInt 64 n &&& BitVec.ofInt 64 (2 ^ i - 1)).toNat = (n % ((2 ^ 64 : Nat) : Int)).toNat % 2 ^ i := by
    rw [BitVec.toNat_and, BitVec.toNat_ofInt, h127, Nat.and_two_pow_sub_one_eq_mod]
  show IntKind.i64.wrap ((BitVec.ofInt 64 n &&& BitVec.ofInt 64 (2 ^ i - 1)).toNat : Nat) = n % 2 ^ i
  rw [key, IntKind.wrap_i64]
  have h2 : (((n % ((2 ^ 64 : Nat) : Int)).toNat % 2 ^ i : Nat) : Int) = n % 2 ^ i := by
    rw [Int.natCast_emod, Int.toNat_of_nonneg (Int.emod_nonneg _ (by decide))]
    have : ((2 ^ i : Nat) : Int) ∣ ((2 ^ 64 : Nat) : Int) := by exact_mod_cast hdvd
    rw [Int.emod_emod_of_dvd _ this]
    simp
  have h3 : ((n % ((2 ^ 64 : Nat) : Int)).toNat % 2 ^ i) < 2 ^ i := Nat.mod_lt _ hpos
  omega
theorem i64_and63 (n : Int) : bits .and .i64 n 63 = n % 64 := i64_and_mask 6 (by decide) n
theorem i64_and31 (n : Int) : bits .and .i64 n 31 = n % 32 := i64_and_mask 5 (by decide) n
theorem i64_and15 (n : Int) : bits .and .i64 n 15 = n % 16 := i64_and_mask 4 (by decide) n
theorem i64_and7 (n : Int) : bits .and .i64 n 7 = n % 8 := i64_and_mask 3 (by decide) n
theorem i64_and1023 (n : Int) : bits .and .i64 n 1023 = n % 1024 := i64_and_mask 10 (by decide) n
theorem i64_or6 (x y : Int) (h0 : 0 ≤ x) (h1 : x < 1152921504606846976) (h2 : x % 64 = 0) (h3 : 0 ≤ y) (h4 : y < 64) : bits .or .i64 x y = x + y :=
  bits_join .i64 62 (by decide) wraps_i64 6 x y h0 h2 (by omega) h3 h4 (by omega)
/-! bytes of a new block as text -/
theorem conv_new (W : World) (b n c : Nat) (C : Array Value) (xs : List Int) (fr : Nat × Nat) (hb : W.heap.size = b) (hC : C.toList = xs.map (Value.int .u8)) (hn : xs.length = n) :
    (convert 112 9 (.slice (some ⟨b, 0, none⟩) n c)).run Try.prog (W.alloc (.cells C 5 fr)) = .ok (.string (strOfNums xs)) (W.alloc (.cells C 5 fr)) := by
  refine run_convert_bytes_arg _ 112 5 Try.underlying112 Try.underlying5 b 0 n c xs hn ?_ 9 Try.underlying9
  intro i hi
  subst hb
  rw [World.cell?_alloc_mark]
  have : C[0+i]? = (xs.map (Value.int .u8))[i]? := by rw [← hC]; simp
  rw [this]
  simp [List.getElem?_eq_getElem (show i < xs.length by omega), List.getD]
theorem conv1 (W : World) (b : Nat) (x : Int) (hb : W.heap.size = b) : (convert 112 9 (.slice (some ⟨b, 0, none⟩) 1 1)).run Try.prog (W.alloc (.cells #[.int .u8 x] 5)) = .ok (.string (strOfNums [x])) (W.alloc (.cells #[.int .u8 x] 5)) := conv_new W b 1 1 _ [x] _ hb rfl rfl
theorem conv2 (W : World) (b : Nat) (x y : Int) (hb : W.heap.size = b) : (convert 112 9 (.slice (some ⟨b, 0, none⟩) 2 2)).run Try.prog (W.alloc (.cells #[.int .u8 x, .int .u8 y] 5)) = .ok (.string (strOfNums [x, y])) (W.alloc (.cells #[.int .u8 x, .int .u8 y] 5)) := conv_new W b 2 2 _ [x, y] _ hb rfl rfl
theorem conv3 (W : World) (b : Nat) (x y z : Int) (hb : W.heap.size = b) : (convert 112 9 (.slice (some ⟨b, 0, none⟩) 3 3)).run Try.prog (W.alloc (.cells #[.int .u8 x, .int .u8 y, .int .u8 z] 5)) = .ok (.string (strOfNums [x, y, z])) (W.alloc (.cells #[.int .u8 x, .int .u8 y, .int .u8 z] 5)) := conv_new W b 3 3 _ [x, y, z] _ hb rfl rfl
theorem conv4 (W : World) (b : Nat) (x y z u : Int) (hb : W.heap.size = b) : (convert 112 9 (.slice (some ⟨b, 0, none⟩) 4 4)).run Try.prog (W.alloc (.cells #[.int .u8 x, .int .u8 y, .int .u8 z, .int .u8 u] 5)) = .ok (.string (strOfNums [x, y, z, u])) (W.alloc (.cells #[.int .u8 x, .int .u8 y, .int .u8 z, .int .u8 u] 5)) := conv_new W b 4 4 _ [x, y, z, u] _ hb rfl rfl
end Go.Proofs.Yteefopeclfojiaa
/- 
  UTF-8 in plain terms: a scalar's bytes, the piece that stands at the head of bytes. No program in sight.
 -/
namespace Go.Proofs.Yteefopeclfojiaa
def isSc (r : Int) : Bool := decide (0 ≤ r ∧ r ≤ 1114111 ∧ (r < 55296 ∨ 57343 < r))
def sLen (r : Int) : Int := if isSc r = false then 0 else if r < 128 then 1 else if r < 2048 then 2 else if r < 65536 then 3 else 4
def encN (r : Int) : List Int :=
  if isSc r = false then [] else if r < 128 then [r] else if r < 2048 then [192 + r / 64, 128 + r % 64]
  else if r < 65536 then [224 + r / 64 / 64, 128 + r / 64 % 64, 128 + r % 64]
  else [240 + r / 64 / 64 / 64, 128 + r / 64 / 64 % 64, 128 + r / 64 % 64, 128 + r % 64]
def encS (r : Int) : ByteArray := strOfNums (encN r)
def fMore (c : Int) : Int := if c < 128 then 0 else if c < 194 ∨ 244 < c then -1 else if c < 224 then 1 else if c < 240 then 2 else 3
def fBits (c : Int) : Int := if c < 128 then c else if c < 194 ∨ 244 < c then 0 else if c < 224 then c % 32 else if c < 240 then c % 16 else c % 8
def fFrom (c : Int) : Int := if c = 224 then 160 else if c = 240 then 144 else 128
def fTo (c : Int) : Int := if c = 237 then 159 else if c = 244 then 143 else 191
/-- what the bytes behind a first one make: so many are wanted; the scalar so far; the next one's bounds; how many bytes are read. -/
def conts : Nat → Int → Int → Int → Nat → List Int → Int × Nat
  | 0, r, _, _, n, _ => (r, n)
  | _ + 1, _, _, _, n, [] => (-1, n)
  | m + 1, r, fr, to, n, c :: t => if c < fr ∨ to < c then (-1, n) else conts m (r * 64 + c % 64) 128 191 (n + 1) t
/-- the piece at the head of bytes: its scalar (-1: it is wrong), how many bytes it has. -/
def piece : List Int → Int × Nat
  | [] => (-1, 1)
  | c :: t => if fMore c < 0 then (-1, 1) else conts (fMore c).toNat (fBits c) (fFrom c) (fTo c) 1 t
/-- a text's bytes as numbers. -/
def nums (s : ByteArray) : List Int := s.data.toList.map fun c => (c.toNat : Int)
theorem nums_length (s : ByteArray) : (nums s).length = s.size := by unfold nums; rw [List.length_map, Array.length_toList]; rfl
theorem nums_drop (s : ByteArray) (k : Nat) (h : k < s.size) : (nums s).drop k = (s[k].toNat : Int) :: (nums s).drop (k + 1) := by
  have h' : k < (nums s).length := by rw [nums_length]; exact h
  rw [List.drop_eq_getElem_cons h']
  simp [nums]
  rfl
theorem nums_drop_end (s : ByteArray) (k : Nat) (h : s.size ≤ k) : (nums s).drop k = [] := by
  rw [List.drop_eq_nil_iff, nums_length]; exact h
theorem fMore_lo (c : Int) : -1 ≤ fMore c ∧ fMore c ≤ 3 := by unfold fMore; split <;> (try split) <;> (try split) <;> (try split) <;> omega
theorem fBits_lo (c : Int) (h0 : 0 ≤ c) : 0 ≤ fBits c ∧ fBits c < 128 := by
  unfold fBits
  split
  · omega
  · split
    · omega
    · split
      · omega
      · split <;> omega
theorem fFrom_lo (c : Int) : 128 ≤ fFrom c ∧ fFrom c ≤ 160 := by unfold fFrom; split <;> (try split) <;> omega
theorem fTo_lo (c : Int) : 143 ≤ fTo c ∧ fTo c ≤ 191 := by unfold fTo; split <;> (try split) <;> omega
/-- a piece has at least one byte, and no more than there are. -/
theorem conts_n : ∀ (m : Nat) (r fr to : Int) (n : Nat) (l : List Int), n ≤ (conts m r fr to n l).2 ∧ (conts m r fr to n l).2 ≤ n + l.length ∧ (conts m r fr to n l).2 ≤ n + m
  | 0, r, fr, to, n, l => by simp [conts]
  | m + 1, r, fr, to, n, [] => by simp [conts]
  | m + 1, r, fr, to, n, c :: t => by
    rw [conts]
    split
    · simp
    · have := conts_n m (r * 64 + c % 64) 128 191 (n + 1) t
      simp only [List.length_cons]
      omega
theorem piece_n (c : Int) (t : List Int) : 1 ≤ (piece (c :: t)).2 ∧ (piece (c :: t)).2 ≤ (c :: t).length ∧ (piece (c :: t)).2 ≤ 4 := by
  rw [piece]
  split
  · simp
  · have := conts_n (fMore c).toNat (fBits c) (fFrom c) (fTo c) 1 t
    have h3 := fMore_lo c
    simp only [List.length_cons]
    omega
end Go.Proofs.Yteefopeclfojiaa
/- 
  The walks of utf8 that loop over no text: Is, Len, Put, follow, piece, Next, and the reference's.
 -/
namespace Go.Proofs.Yteefopeclfojiaa
open Go.RowKit
attribute [local go_sem] i64_and63 i64_and31 i64_and15 i64_and7
theorem isSc_bd {r : Int} (h : isSc r = true) : 0 ≤ r ∧ r < 1114112 := by unfold isSc at h; have := of_decide_eq_true h; omega
end Go.Proofs.Yteefopeclfojiaa
/- 
  The walks of utf8: Put, and the reference's Put.
 -/
namespace Go.Proofs.Yteefopeclfojiaa
open Go.RowKit
attribute [local go_sem] i64_and63 i64_and31 i64_and15 i64_and7
theorem encN_1 {r : Int} (h0 : isSc r = true) (h : r < 128) : encN r = [r] := by simp [encN, h0, h]
theorem encN_2 {r : Int} (h0 : isSc r = true) (h1 : 128 ≤ r) (h2 : r < 2048) : encN r = [192 + r / 64, 128 + r % 64] := by simp [encN, h0, show ¬ r < 128 by omega, h2]
theorem encN_3 {r : Int} (h0 : isSc r = true) (h1 : 2048 ≤ r) (h2 : r < 65536) : encN r = [224 + r / 64 / 64, 128 + r / 64 % 64, 128 + r % 64] := by simp [encN, h0, show ¬ r < 128 by omega, show ¬ r < 2048 by omega, h2]
theorem encN_4 {r : Int} (h0 : isSc r = true) (h1 : 65536 ≤ r) : encN r = [240 + r / 64 / 64 / 64, 128 + r / 64 / 64 % 64, 128 + r / 64 % 64, 128 + r % 64] := by simp [encN, h0, show ¬ r < 128 by omega, show ¬ r < 2048 by omega, show ¬ r < 65536 by omega]
theorem encN_0 {r : Int} (h0 : isSc r = false) : encN r = [] := by simp [encN, h0]
theorem sLen_1 {r : Int} (h0 : isSc r = true) (h : r < 128) : sLen r = 1 := by simp [sLen, h0, h]
theorem sLen_2 {r : Int} (h0 : isSc r = true) (h1 : 128 ≤ r) (h2 : r < 2048) : sLen r = 2 := by simp [sLen, h0, show ¬ r < 128 by omega, h2]
theorem sLen_3 {r : Int} (h0 : isSc r = true) (h1 : 2048 ≤ r) (h2 : r < 65536) : sLen r = 3 := by simp [sLen, h0, show ¬ r < 128 by omega, show ¬ r < 2048 by omega, h2]
theorem sLen_4 {r : Int} (h0 : isSc r = true) (h1 : 65536 ≤ r) : sLen r = 4 := by simp [sLen, h0, show ¬ r < 128 by omega, show ¬ r < 2048 by omega, show ¬ r < 65536 by omega]
theorem sLen_0 {r : Int} (h0 : isSc r = false) : sLen r = 0 := by simp [sLen, h0]
theorem or_bits6 (k x y : Int) (h : k = 192 ∨ k = 224 ∨ k = 240) (h0 : 0 ≤ y) (h1 : y < 8) (hx : x = y) : bits .or .i64 k x = k + y := by
  subst hx
  rcases h with rfl | rfl | rfl
  · exact bits_join .i64 62 (by decide) wraps_i64 5 192 x (by decide) (by decide) (by decide) h0 (by omega) (by omega)
  · exact bits_join .i64 62 (by decide) wraps_i64 4 224 x (by decide) (by decide) (by decide) h0 (by omega) (by omega)
  · exact bits_join .i64 62 (by decide) wraps_i64 3 240 x (by decide) (by decide) (by decide) h0 (by omega) (by omega)
theorem or192 (x : Int) (h0 : 0 ≤ x) (h1 : x < 32) : bits .or .i64 192 x = 192 + x := bits_join .i64 62 (by decide) wraps_i64 5 192 x (by decide) (by decide) (by decide) h0 (by omega) (by omega)
theorem or224 (x : Int) (h0 : 0 ≤ x) (h1 : x < 16) : bits .or .i64 224 x = 224 + x := bits_join .i64 62 (by decide) wraps_i64 4 224 x (by decide) (by decide) (by decide) h0 (by omega) (by omega)
theorem or240 (x : Int) (h0 : 0 ≤ x) (h1 : x < 8) : bits .or .i64 240 x = 240 + x := bits_join .i64 62 (by decide) wraps_i64 3 240 x (by decide) (by decide) (by decide) h0 (by omega) (by omega)
theorem or128 (x : Int) (h0 : 0 ≤ x) (h1 : x < 64) : bits .or .i64 128 x = 128 + x := bits_join .i64 62 (by decide) wraps_i64 6 128 x (by decide) (by decide) (by decide) h0 (by omega) (by omega)
end Go.Proofs.Yteefopeclfojiaa
/- 
  The walks of utf8: follow, piece, Next, and the reference's lead, part, Next: what stands at a byte.
 -/
namespace Go.Proofs.Yteefopeclfojiaa
open Go.RowKit
attribute [local go_sem] i64_and63 i64_and31 i64_and15 i64_and7
theorem index_str (s : ByteArray) (k : Nat) (h : k < s.size) (d i : Int) (hd : (s[k].toNat : Int) = d) (hi : i = k) (w : World) :
    (Instr.index 9 (.string s) (.int .i64 i)).run Try.prog w = .ok (.int .u8 d) w := by
  subst hi
  rw [run_index_string w _ _ _ _ Try.underlying9]
  simp [h, hd]
def nextR (s : ByteArray) (k : Int) : Int × Nat := if k < 0 ∨ (s.size : Int) ≤ k then (-1, 0) else if (piece ((nums s).drop k.toNat)).1 < 0 then (-1, 0) else piece ((nums s).drop k.toNat)
def pR (p : Int × Nat) : Int := if p.1 < 0 then 0 else p.1
def pOk (p : Int × Nat) : Bool := decide (0 ≤ p.1)
theorem pR_of {p : Int × Nat} (h : 0 ≤ p.1) : pR p = p.1 := if_neg (by omega)
theorem pOk_of {p : Int × Nat} (h : 0 ≤ p.1) : pOk p = true := decide_eq_true h
end Go.Proofs.Yteefopeclfojiaa
/- 
  Slices: a slice value that reads as a list; append to a slice of the call's own as an equation on its run.
 -/
namespace Go.Proofs.Yteefopeclfojiaa
open Go.RowKit Go.Lib
theorem addr0 (g i : Nat) : (⟨g, 0, none⟩ : Addr).add i = ⟨g, 0 + i, none⟩ := by unfold Addr.add; split <;> simp_all
/-- an append whose run is known. -/
theorem wpList_append_run {P : Program} {w : World} {ops : Array Oper} {rest : List Oper} {o : Oper} {a : Act} {Q : Exit → Act → World → Prop} (hgd : o.guard = none) (s x : Operand) (t tx : TypeId)
    (ho : o.op = .call { callee := .builtin .append, args := #[s, x], argTypes := #[t, tx] }) (v xv : Value) (hs : a.eval s = v) (hx : a.eval x = xv) (v' : Value) (w' : World)
    (hr : (Builtin.append_ #[t, tx] o.type #[v, xv]).run P w = .ok v' w') (h : wpList P ops Q rest (a.put o.dst v') w') : wpList P ops Q (o :: rest) a w :=
  wpList_plain hgd fun K hK => by
    unfold Oper.wp execOp
    simp only [ho, resolve, invoke, builtin, Sem.run_bind, Sem.run_pure, Result.andThen_ok, List.map_toArray, List.map_cons, List.map_nil, hs, hx, hr]
    exact hK _ _ h
/-- the slice value reads as the list xs, in blocks below B. -/
def Reads (B : Nat) (w : World) (v : Value) (xs : List Value) : Prop :=
  xs.length ≤ maxLen ∧ ∃ a cap, v = .slice a xs.length cap ∧ (xs = [] ∨ ∃ b off, a = some ⟨b, off, none⟩ ∧ b < B ∧ ∀ i (h : i < xs.length), w.cell? ⟨b, off + i, none⟩ = some xs[i])
theorem Reads.below {B : Nat} {w w' : World} {v : Value} {xs : List Value} (h : Reads B w v xs) {C : Nat} (hb : Below C w w') (hBC : B ≤ C) : Reads B w' v xs := by
  obtain ⟨hl, a, cap, rfl, h⟩ := h
  refine ⟨hl, a, cap, rfl, ?_⟩
  rcases h with h | ⟨b, off, rfl, hB, hc⟩
  · exact .inl h
  · exact .inr ⟨b, off, rfl, hB, fun i hi => (hb.cell (p := ⟨b, off + i, none⟩) (by exact Nat.lt_of_lt_of_le hB hBC)).trans (hc i hi)⟩
theorem Reads.mono {B C : Nat} {w : World} {v : Value} {xs : List Value} (h : Reads B w v xs) (hBC : B ≤ C) : Reads C w v xs := by
  obtain ⟨hl, a, cap, rfl, h⟩ := h
  refine ⟨hl, a, cap, rfl, ?_⟩
  rcases h with h | ⟨b, off, rfl, hB, hc⟩
  · exact .inl h
  · exact .inr ⟨b, off, rfl, Nat.lt_of_lt_of_le hB hBC, hc⟩
theorem Reads.open {B : Nat} {w : World} {v : Value} {k : IntKind} {xs : List Int} (h : Reads B w v (xs.map (Value.int k))) :
    ∃ a cap, v = .slice a xs.length cap ∧ xs.length ≤ maxLen ∧ (∀ i (_ : i < xs.length), ∃ b off, a = some ⟨b, off, none⟩ ∧ b < B ∧ w.cell? ⟨b, off + i, none⟩ = some (.int k xs[i])) := by
  obtain ⟨hl, a, cap, rfl, h⟩ := h
  rw [List.length_map] at hl
  refine ⟨a, cap, by rw [List.length_map], hl, fun i hi => ?_⟩
  rcases h with h | ⟨b, off, rfl, hB, hc⟩
  · rw [List.map_eq_nil_iff] at h; subst h; simp at hi
  · exact ⟨b, off, rfl, hB, by rw [hc i (by rw [List.length_map]; exact hi), List.getElem_map]⟩
/-- a slice over a new block reads as its cells. -/
theorem reads_alloc (W : World) (C : Array Value) (t : TypeId) (n c : Nat) (xs : List Value) (hC : C.toList = xs) (hn : xs.length = n) (hm : n ≤ maxLen) : Reads (W.heap.size + 1) (W.alloc (.cells C t)) (.slice (some ⟨W.heap.size, 0, none⟩) n c) xs := by
  subst hn
  refine ⟨hm, _, c, rfl, .inr ⟨W.heap.size, 0, rfl, by omega, fun i hi => ?_⟩⟩
  rw [World.cell?_alloc_mark]
  have : C[0 + i]? = xs[i]? := by rw [← hC]; simp
  rw [this, List.getElem?_eq_getElem hi]
/-- a slice that owns its row reads as it. -/
theorem Reads.of_own {w : World} {base : Nat} {e : TypeId} {v : Value} {n : Nat} {xs : List Value} (h : w.ownsRow base e 1 v n xs) (hn : n ≤ maxLen) : Reads w.heap.size w v xs := by
  have hxl : xs.length = n := by simpa using h.1
  have hb := h.lt
  have hc := fun g => h.cells (g := g)
  rcases h.2 with ⟨rfl, rfl⟩ | ⟨g, cap, cur, rfl, _⟩
  · exact ⟨by omega, none, 0, by rw [hxl], .inl (List.eq_nil_of_length_eq_zero hxl)⟩
  · refine ⟨by omega, some ⟨g, 0, none⟩, cap, by rw [hxl], .inr ⟨g, 0, rfl, (hb g rfl).2, fun i hi => ?_⟩⟩
    have := hc g rfl i xs[i] (by rw [List.getElem?_eq_getElem hi])
    rwa [addr0] at this
theorem ownBelow {w w' : World} {base : Nat} {e : TypeId} {size : Nat} {v : Value} {n : Nat} {xs : List Value} (hown : w.ownsRow base e size v n xs) (hg : w.grownBy w' v.ownBlock) {B : Nat} (hB : B ≤ base) (hs : B ≤ w.heap.size) : Below B w w' :=
  (Below.refl B w).grown hg hs fun k hk => Nat.le_trans hB (hown.lt k hk).1
theorem own_below {w w' : World} {base : Nat} {e : TypeId} {size : Nat} {v : Value} {n : Nat} {xs : List Value} (h : w.ownsRow base e size v n xs) {B : Nat} (hb : Below B w w') (hB : w.heap.size ≤ B) : w'.ownsRow base e size v n xs := by
  refine ⟨h.1, ?_⟩
  have hlt := h.lt
  rcases h.2 with h | ⟨g, cap, cur, rfl, h1, h2, h3⟩
  · exact .inl h
  · exact .inr ⟨g, cap, cur, rfl, h1, (hb.block g (Nat.lt_of_lt_of_le (hlt g rfl).2 hB)).trans h2, h3⟩
/-- a slice of integers that came in reads as its elements. -/
theorem reads_row {k : IntKind} {w : World} {a : Option Addr} {len cap : Nat} {zs : List Int}
    (h : (a = none ∧ len = 0 ∧ cap = 0 ∧ zs = []) ∨ ∃ x, a = some x ∧ len ≤ cap ∧ cap ≤ maxLen ∧ zs.length = cap ∧ (∀ i, i < zs.length → w.cell? (x.add i) = some (.int k (zs.getD i 0))) ∧ ∀ n ∈ zs, (Lit.int k n).wf = true) :
    Reads w.heap.size w (.slice a len cap) ((zs.take len).map (Value.int k)) := by
  rcases h with ⟨rfl, rfl, rfl, rfl⟩ | ⟨x, rfl, h1, h2, h3, h4, _⟩
  · exact ⟨by simp, none, 0, rfl, .inl rfl⟩
  · have hl : ((zs.take len).map (Value.int k)).length = len := by rw [List.length_map, List.length_take]; omega
    refine ⟨by rw [hl]; omega, some x, cap, by rw [hl], ?_⟩
    by_cases h0 : len = 0
    · left; rw [h0]; rfl
    · right
      obtain ⟨b, off, spot⟩ := x
      have hc := h4 0 (by omega)
      have hspot : spot = none := by simpa [Addr.add] using World.cell?_spot hc
      subst hspot
      have hadd : ∀ i, (⟨b, off, none⟩ : Addr).add i = ⟨b, off + i, none⟩ := fun i => by unfold Addr.add; split <;> simp_all
      have hb : b < w.heap.size := by
        rw [hadd] at hc
        simp only [World.cell?] at hc
        by_cases hlt : b < w.heap.size
        · exact hlt
        · rw [Array.getElem?_eq_none (by omega)] at hc; simp at hc
      refine ⟨b, off, rfl, hb, fun i hi => ?_⟩
      rw [hl] at hi
      have := h4 i (by omega)
      rw [hadd] at this
      rw [this, List.getElem_map, List.getElem_take]
      simp [List.getD, List.getElem?_eq_getElem (show i < zs.length by omega)]
theorem own_slice {w : World} {base : Nat} {e : TypeId} {size : Nat} {v : Value} {n : Nat} {xs : List Value} (h : w.ownsRow base e size v n xs) : ∃ a l c, v = .slice a l c := by
  rcases h.2 with ⟨rfl, _⟩ | ⟨g, cap, cur, rfl, _⟩
  · exact ⟨_, _, _, rfl⟩
  · exact ⟨_, _, _, rfl⟩
theorem infoInt : (Try.prog.info? 3).map (fun i => (i.zero, i.size, i.bytes)) = some (some (.int .i64 0), 1, 8) := by kernel_rfl
/-- 'append(out, x)', out of the call's own: some value, some world; what they are good for. -/
theorem app_int (wr : World) (base : Nat) (v : Value) (n : Nat) (xs : List Int) (hown : wr.ownsRow base 3 1 v n (xs.map (Value.int .i64))) (x : Int) (hn : n < 1099511627776) (hbase : base ≤ wr.heap.size) :
    ∃ v' w', (Builtin.append_ #[31, 31] 31 #[v, .slice (some ⟨wr.heap.size, 0, none⟩) 1 1]).run Try.prog (wr.alloc (.cells #[.int .i64 x] 3)) = .ok v' w' ∧
      w'.ownsRow base 3 1 v' (n + 1) ((xs ++ [x]).map (Value.int .i64)) ∧ Below base wr w' ∧ v' ≠ .slice none 0 0 := by
  obtain ⟨i0, hi, hz0, hz1, hz2⟩ := info_parts infoInt
  obtain ⟨v', w', h1, h2, h3, h4⟩ := run_append_own (P := Try.prog) (wr.alloc (.cells #[.int .i64 x] 3)) base 31 31 3 i0 (.int .i64 0) 1 8 Try.underlying31 hi hz0 hz1 hz2 rfl (by decide) v n _ (hown.alloc _) ⟨wr.heap.size, 0, none⟩ 1 1 [.int .i64 x] rfl
    (fun j u hj => by match j, hj with | 0, hj => simp at hj; subst hj; simp [Addr.add, World.cell?_alloc_mark]) (fun u hu => by simp at hu; subst hu; rfl) (by unfold maxLen; omega) (by omega) (by simp; omega)
  refine ⟨v', w', h1, by simpa using h2, ((Below.refl base wr).alloc hbase _).trans (ownBelow (hown.alloc _) h3 (Nat.le_refl _) (by simp; omega)), fun h => ?_⟩
  have := (h4.1 h).2
  omega
theorem app_int_g (wr : World) (base : Nat) (v : Value) (n : Nat) (xs : List Int) (hown : wr.ownsRow base 3 1 v n (xs.map (Value.int .i64))) (x : Int) (hn : n < 1099511627776) (hbase : base ≤ wr.heap.size) :
    ∃ v' w', (Builtin.append_ #[31, 31] 31 #[v, .slice (some ⟨wr.heap.size, 0, none⟩) 1 1]).run Try.prog (wr.alloc (.cells #[.int .i64 x] 3)) = .ok v' w' ∧
      w'.ownsRow base 3 1 v' (n + 1) ((xs ++ [x]).map (Value.int .i64)) ∧ (wr.alloc (.cells #[.int .i64 x] 3)).grownBy w' v.ownBlock := by
  obtain ⟨i0, hi, hz0, hz1, hz2⟩ := info_parts infoInt
  obtain ⟨v', w', h1, h2, h3, h4⟩ := run_append_own (P := Try.prog) (wr.alloc (.cells #[.int .i64 x] 3)) base 31 31 3 i0 (.int .i64 0) 1 8 Try.underlying31 hi hz0 hz1 hz2 rfl (by decide) v n _ (hown.alloc _) ⟨wr.heap.size, 0, none⟩ 1 1 [.int .i64 x] rfl
    (fun j u hj => by match j, hj with | 0, hj => simp at hj; subst hj; simp [Addr.add, World.cell?_alloc_mark]) (fun u hu => by simp at hu; subst hu; rfl) (by unfold maxLen; omega) (by omega) (by simp; omega)
  exact ⟨v', w', h1, by simpa using h2, h3⟩
theorem infoU8 : (Try.prog.info? 5).map (fun i => (i.zero, i.size, i.bytes)) = some (some (.int .u8 0), 1, 1) := by kernel_rfl
/-- 'append(out, b)' of one byte. -/
theorem app_u8 (wr : World) (base : Nat) (v : Value) (n : Nat) (xs : List Int) (hown : wr.ownsRow base 5 1 v n (xs.map (Value.int .u8))) (x : Int) (hn : n < 1099511627776) (hbase : base ≤ wr.heap.size) :
    ∃ v' w', (Builtin.append_ #[112, 112] 112 #[v, .slice (some ⟨wr.heap.size, 0, none⟩) 1 1]).run Try.prog (wr.alloc (.cells #[.int .u8 x] 5)) = .ok v' w' ∧
      w'.ownsRow base 5 1 v' (n + 1) ((xs ++ [x]).map (Value.int .u8)) ∧ Below base wr w' ∧ v' ≠ .slice none 0 0 := by
  obtain ⟨i0, hi, hz0, hz1, hz2⟩ := info_parts infoU8
  obtain ⟨v', w', h1, h2, h3, h4⟩ := run_append_own (P := Try.prog) (wr.alloc (.cells #[.int .u8 x] 5)) base 112 112 5 i0 (.int .u8 0) 1 1 Try.underlying112 hi hz0 hz1 hz2 rfl (by decide) v n _ (hown.alloc _) ⟨wr.heap.size, 0, none⟩ 1 1 [.int .u8 x] rfl
    (fun j u hj => by match j, hj with | 0, hj => simp at hj; subst hj; simp [Addr.add, World.cell?_alloc_mark]) (fun u hu => by simp at hu; subst hu; rfl) (by unfold maxLen; omega) (by omega) (by simp; omega)
  refine ⟨v', w', h1, by simpa using h2, ((Below.refl base wr).alloc hbase _).trans (ownBelow (hown.alloc _) h3 (Nat.le_refl _) (by simp; omega)), fun h => ?_⟩
  have := (h4.1 h).2
  omega
/-- 'append(out, b0, b1, b2)' of three bytes. -/
theorem app_u8_3 (wr : World) (base : Nat) (v : Value) (n : Nat) (xs : List Int) (hown : wr.ownsRow base 5 1 v n (xs.map (Value.int .u8))) (x y z : Int) (hn : n < 1099511627776) (hbase : base ≤ wr.heap.size) :
    ∃ v' w', (Builtin.append_ #[112, 112] 112 #[v, .slice (some ⟨wr.heap.size, 0, none⟩) 3 3]).run Try.prog (wr.alloc (.cells #[.int .u8 x, .int .u8 y, .int .u8 z] 5)) = .ok v' w' ∧
      w'.ownsRow base 5 1 v' (n + 3) ((xs ++ [x, y, z]).map (Value.int .u8)) ∧ Below base wr w' ∧ v' ≠ .slice none 0 0 := by
  obtain ⟨i0, hi, hz0, hz1, hz2⟩ := info_parts infoU8
  obtain ⟨v', w', h1, h2, h3, h4⟩ := run_append_own (P := Try.prog) (wr.alloc (.cells #[.int .u8 x, .int .u8 y, .int .u8 z] 5)) base 112 112 5 i0 (.int .u8 0) 1 1 Try.underlying112 hi hz0 hz1 hz2 rfl (by decide) v n _ (hown.alloc _) ⟨wr.heap.size, 0, none⟩ 3 3 [.int .u8 x, .int .u8 y, .int .u8 z] rfl
    (fun j u hj => by
      match j, hj with
      | 0, hj => simp at hj; subst hj; simp [Addr.add, World.cell?_alloc_mark]
      | 1, hj => simp at hj; subst hj; simp [Addr.add, World.cell?_alloc_mark]
      | 2, hj => simp at hj; subst hj; simp [Addr.add, World.cell?_alloc_mark]) (fun u hu => by simp at hu; rcases hu with rfl | rfl | rfl <;> rfl) (by unfold maxLen; omega) (by omega) (by simp; omega)
  refine ⟨v', w', h1, by simpa using h2, ((Below.refl base wr).alloc hbase _).trans (ownBelow (hown.alloc _) h3 (Nat.le_refl _) (by simp; omega)), fun h => ?_⟩
  have := (h4.1 h).2
  omega
theorem strCells_nums (s : ByteArray) : strCells s = (s.data.toList.map fun c => (c.toNat : Int)).map (Value.int .u8) := by simp [strCells]
/-- 'append(out, s...)', s a string: the row alone has grown. -/
theorem app_str_g (wr : World) (base : Nat) (v : Value) (n : Nat) (xs : List Int) (hown : wr.ownsRow base 5 1 v n (xs.map (Value.int .u8))) (s : ByteArray) (hn : n + s.size < 1099511627776) (hbase : base ≤ wr.heap.size) :
    ∃ v' w', (Builtin.append_ #[112, 9] 112 #[v, .string s]).run Try.prog wr = .ok v' w' ∧
      w'.ownsRow base 5 1 v' (n + s.size) ((xs ++ s.data.toList.map fun c => (c.toNat : Int)).map (Value.int .u8)) ∧ wr.grownBy w' v.ownBlock := by
  obtain ⟨i0, hi, hz0, hz1, hz2⟩ := info_parts infoU8
  obtain ⟨v', w', h1, h2, h3, h4⟩ := run_append_own_string (P := Try.prog) wr base 112 9 112 5 i0 Try.underlying112 Try.underlying9 hi hz0 hz1 hz2 v n _ hown s (by unfold maxLen; omega) (by omega) hbase
  exact ⟨v', w', h1, by rw [List.map_append, ← strCells_nums]; exact h2, h3⟩
/-- 'append(out, s...)', s a string. -/
theorem app_str (wr : World) (base : Nat) (v : Value) (n : Nat) (xs : List Int) (hown : wr.ownsRow base 5 1 v n (xs.map (Value.int .u8))) (s : ByteArray) (hn : n + s.size < 1099511627776) (hbase : base ≤ wr.heap.size) :
    ∃ v' w', (Builtin.append_ #[112, 9] 112 #[v, .string s]).run Try.prog wr = .ok v' w' ∧
      w'.ownsRow base 5 1 v' (n + s.size) ((xs ++ s.data.toList.map fun c => (c.toNat : Int)).map (Value.int .u8)) ∧ Below base wr w' := by
  obtain ⟨i0, hi, hz0, hz1, hz2⟩ := info_parts infoU8
  obtain ⟨v', w', h1, h2, h3, h4⟩ := run_append_own_string (P := Try.prog) wr base 112 9 112 5 i0 Try.underlying112 Try.underlying9 hi hz0 hz1 hz2 v n _ hown s (by unfold maxLen; omega) (by omega) hbase
  exact ⟨v', w', h1, by rw [List.map_append, ← strCells_nums]; exact h2, ownBelow hown h3 (Nat.le_refl _) hbase⟩
/-- 'string(out)', out of the call's own. -/
theorem conv_own (w : World) (base : Nat) (v : Value) (n : Nat) (xs : List Int) (hown : w.ownsRow base 5 1 v n (xs.map (Value.int .u8))) :
    (convert 112 9 v).run Try.prog w = .ok (.string (strOfNums xs)) w := by
  have hxl : xs.length = n := by simpa using hown.1
  rcases hown.2 with ⟨rfl, rfl⟩ | ⟨g, cap, cur, rfl, _⟩
  · obtain rfl : xs = [] := List.eq_nil_of_length_eq_zero hxl
    exact run_convert_bytes_nil w 112 5 Try.underlying112 Try.underlying5 0 0 9 Try.underlying9
  · refine run_convert_bytes_arg w 112 5 Try.underlying112 Try.underlying5 g 0 n cap xs hxl (fun i hi => ?_) 9 Try.underlying9
    have := hown.cells (g := g) rfl i (.int .u8 (xs.getD i 0)) (by simp [List.getElem?_eq_getElem (show i < xs.length by omega), List.getD])
    rwa [addr0] at this
end Go.Proofs.Yteefopeclfojiaa
/- 
  UTF-8 in plain terms: a text's pieces, its scalars, scalars as text, bytes told loosely. No program in sight.
 -/
namespace Go.Proofs.Yteefopeclfojiaa
/-- the pieces of bytes, by fuel. -/
def pcs : Nat → List Int → List (Int × Nat)
  | 0, _ => []
  | _ + 1, [] => []
  | f + 1, c :: t => piece (c :: t) :: pcs f ((c :: t).drop (piece (c :: t)).2)
def pieces (l : List Int) : List (Int × Nat) := pcs l.length l
theorem pcs_nil (f : Nat) : pcs f [] = [] := by cases f <;> rfl
theorem pcs_fuel : ∀ (f g : Nat) (l : List Int), l.length ≤ f → l.length ≤ g → pcs f l = pcs g l
  | 0, g, l, hf, _ => by
    obtain rfl : l = [] := List.eq_nil_of_length_eq_zero (by omega)
    rw [pcs_nil, pcs_nil]
  | f + 1, g, [], _, _ => by rw [pcs_nil, pcs_nil]
  | f + 1, 0, c :: t, _, hg => by simp at hg
  | f + 1, g + 1, c :: t, hf, hg => by
    rw [pcs, pcs]
    have hn := piece_n c t
    simp only [List.length_cons] at hf hg hn
    rw [pcs_fuel f g ((c :: t).drop (piece (c :: t)).2) (by rw [List.length_drop, List.length_cons]; omega) (by rw [List.length_drop, List.length_cons]; omega)]
theorem pieces_nil : pieces [] = [] := rfl
theorem pieces_cons (c : Int) (t : List Int) : pieces (c :: t) = piece (c :: t) :: pieces ((c :: t).drop (piece (c :: t)).2) := by
  unfold pieces
  rw [List.length_cons, pcs]
  have hn := piece_n c t
  simp only [List.length_cons] at hn
  rw [pcs_fuel t.length _ ((c :: t).drop (piece (c :: t)).2) (by rw [List.length_drop, List.length_cons]; omega) (Nat.le_refl _)]
theorem pieces_ne (l : List Int) (h : l ≠ []) : pieces l = piece l :: pieces (l.drop (piece l).2) := by
  cases l with
  | nil => exact absurd rfl h
  | cons c t => exact pieces_cons c t
def okP (p : Int × Nat) : Bool := decide (0 ≤ p.1)
def okAll (l : List Int) : Bool := (pieces l).all okP
/-- a text's scalars, if it is right. -/
def scalL (l : List Int) : List Int := if okAll l then (pieces l).map (·.1) else []
/-- what stands for a piece in text that is told loosely. -/
def mend (p : Int × Nat) : List Int := if p.1 < 0 then [239, 191, 189] else encN p.1
def looseN (l : List Int) : List Int := (pieces l).flatMap mend
/-- where the first wrong piece begins, counted from 'at'; -1: there is none. -/
def firstP : Nat → List (Int × Nat) → Int
  | _, [] => -1
  | a, p :: r => if p.1 < 0 then a else firstP (a + p.2) r
def firstN (l : List Int) : Int := firstP 0 (pieces l)
def scAll (xs : List Int) : Bool := xs.all isSc
def encAll (xs : List Int) : List Int := xs.flatMap encN
def textS (xs : List Int) : ByteArray := if scAll xs then strOfNums (encAll xs) else strOfNums []
theorem encN_len (r : Int) : (encN r).length ≤ 4 := by unfold encN; (repeat' split) <;> simp
theorem encAll_len (xs : List Int) : (encAll xs).length ≤ 4 * xs.length := by
  induction xs with
  | nil => simp [encAll]
  | cons x xs ih =>
    have := encN_len x
    simp only [encAll, List.flatMap_cons, List.length_append, List.length_cons] at *
    omega
theorem mend_len (p : Int × Nat) : (mend p).length ≤ 4 := by unfold mend; split; · simp
                                                             · exact encN_len _
theorem pieces_len : ∀ (f : Nat) (l : List Int), (pcs f l).length ≤ l.length
  | 0, l => by simp [pcs]
  | f + 1, [] => by simp [pcs]
  | f + 1, c :: t => by
    rw [pcs]
    have hn := piece_n c t
    have := pieces_len f ((c :: t).drop (piece (c :: t)).2)
    rw [List.length_drop] at this
    simp only [List.length_cons] at *
    omega
theorem flatMap_len {α : Type} (f : α → List Int) (n : Nat) (hf : ∀ a, (f a).length ≤ n) : ∀ l : List α, (l.flatMap f).length ≤ n * l.length
  | [] => by simp
  | a :: l => by
    have := flatMap_len f n hf l
    have := hf a
    rw [List.flatMap_cons, List.length_append, List.length_cons, Nat.mul_add]
    omega
theorem looseN_len (l : List Int) : (looseN l).length ≤ 4 * l.length := by
  have h1 := flatMap_len mend 4 mend_len (pieces l)
  have h2 := pieces_len l.length l
  unfold looseN pieces at *
  omega
theorem strOfNums_nums (s : ByteArray) : strOfNums (nums s) = s := by
  unfold strOfNums nums
  rw [List.map_map]
  have : (fun n : Int => UInt8.ofNat n.toNat) ∘ (fun c : UInt8 => (c.toNat : Int)) = id := by funext c; simp
  rw [this, List.map_id]
/-- numbers that are bytes. -/
def isBs (l : List Int) : Prop := ∀ x ∈ l, 0 ≤ x ∧ x < 256
theorem nums_strOfNums (l : List Int) (h : isBs l) : nums (strOfNums l) = l := by
  unfold nums
  rw [strOfNums_data, List.map_map]
  conv => rhs; rw [← List.map_id l]
  apply List.map_congr_left
  intro x hx
  have := h x hx
  show ((UInt8.ofNat x.toNat).toNat : Int) = x
  rw [UInt8.toNat_ofNat']
  omega
theorem nums_isBs (s : ByteArray) : isBs (nums s) := by
  intro x hx
  obtain ⟨c, _, rfl⟩ := List.mem_map.1 hx
  have := c.toNat_lt
  omega
end Go.Proofs.Yteefopeclfojiaa
/- 
  A text's bytes: a row that a conversion made, read, written on, made a text again.
 -/
namespace Go.Proofs.Yteefopeclfojiaa
open Go.RowKit
/-- the block p holds a row whose first bytes are xs, and none of the row is frozen. -/
def LowRow (w : World) (p : Nat) (xs : List Int) : Prop := ∃ (C : Array Value) (e : TypeId) (m : Nat), w.heap[p]? = some (.cells C e (C.size, m)) ∧ C.toList.take xs.length = xs.map (Value.int .u8)
theorem LowRow.cellAt {w : World} {p : Nat} {xs : List Int} (h : LowRow w p xs) (j : Nat) (hj : j < xs.length) : w.cell? ⟨p, j, none⟩ = some (.int .u8 xs[j]) := by
  obtain ⟨C, e, m, hb, hC⟩ := h
  have h1 : (C.toList.take xs.length)[j]? = some (.int .u8 xs[j]) := by
    rw [hC, List.getElem?_map, List.getElem?_eq_getElem hj]
    rfl
  rw [List.getElem?_take_of_lt hj] at h1
  simpa [World.cell?, hb] using h1
theorem LowRow.frozenAt {w : World} {p : Nat} {xs : List Int} (h : LowRow w p xs) (j : Nat) (hj : j < xs.length) : w.frozen? ⟨p, j, none⟩ = false := by
  obtain ⟨C, e, m, hb, hC⟩ := h
  have h1 : xs.length ≤ C.size := by
    have := congrArg List.length hC
    simp only [List.length_take, Array.length_toList, List.length_map] at this
    omega
  have h2 : ¬ C.size ≤ j := by omega
  simp [World.frozen?, hb, h2]
theorem LowRow.stored {w : World} {p : Nat} {xs : List Int} (h : LowRow w p xs) (j : Nat) (x : Int) : LowRow (w.setCell ⟨p, j, none⟩ (.int .u8 x)) p (xs.set j x) := by
  obtain ⟨C, e, m, hb, hC⟩ := h
  refine ⟨C.setIfInBounds j (.int .u8 x), e, m, ?_, ?_⟩
  · rw [Lib.heap_setCell_same hb, Array.size_setIfInBounds]
  · rw [Array.toList_setIfInBounds, List.length_set, List.map_set, ← hC, List.take_set]
theorem LowRow.drewN {w : World} {p : Nat} {xs : List Int} (h : LowRow w p xs) (n : Nat) : LowRow (w.drewN n) p xs := h
theorem LowRow.made (w : World) (e : TypeId) (s : ByteArray) : LowRow (Lib.bytesWorld w e s) w.heap.size (nums s) := by
  refine ⟨_, e, _, Lib.bytesWorld_at_new w e s, ?_⟩
  have h : (nums s).map (Value.int .u8) = (s.data.map fun b => Value.int .u8 b.toNat).toList := by
    unfold nums
    rw [List.map_map, Array.toList_map]
    rfl
  have h2 : (s.data.map fun b => Value.int .u8 b.toNat).toList.length = (nums s).length := by rw [← h, List.length_map]
  rw [h, Lib.bytesCells, Array.toList_append, ← h2]
  exact List.take_left
theorem bytes_below (w : World) (e : TypeId) (s : ByteArray) : Below w.heap.size w (Lib.bytesWorld w e s) :=
  ⟨by simp [Lib.bytesWorld, World.freeze, World.alloc, World.drew, -World.alloc_eq, -World.drew_eq], by simp [Lib.bytesWorld, World.freeze, World.alloc, World.drew, -World.alloc_eq, -World.drew_eq],
    by simp [Lib.bytesWorld, World.freeze, World.alloc, World.drew, -World.alloc_eq, -World.drew_eq], by rw [Lib.bytesWorld_size]; omega, fun k hk => Lib.bytesWorld_at_old w e s k hk⟩
theorem LowRow.conv {w : World} {p : Nat} {xs : List Int} (h : LowRow w p xs) (n cap : Nat) (hn : xs.length = n) :
    (convert 112 9 (.slice (some ⟨p, 0, none⟩) n cap)).run Try.prog w = .ok (.string (strOfNums xs)) w := by
  refine run_convert_bytes_arg w 112 5 Try.underlying112 Try.underlying5 p 0 n cap xs hn ?_ 9 Try.underlying9
  intro i hi
  rw [Nat.zero_add, h.cellAt i (by omega)]
  simp [List.getD, List.getElem?_eq_getElem (show i < xs.length by omega)]
theorem nums_at (s : ByteArray) (k : Nat) (h : k < s.size) : (nums s)[k]'(by rw [nums_length]; exact h) = (s[k].toNat : Int) := by simp [nums]; rfl
theorem byte256 (s : ByteArray) (k : Nat) (h : k < s.size) : s[k].toNat < 256 := s[k].toBitVec.isLt
end Go.Proofs.Yteefopeclfojiaa
/- 
  Lower case in plain terms; a row of bytes that is lowered byte by byte.
 -/
namespace Go.Proofs.Yteefopeclfojiaa
def lowB (c : Int) : Int := if 65 ≤ c ∧ c ≤ 90 then c + 32 else c
def lowL (l : List Int) : List Int := l.map lowB
/-- the row of which k bytes are lowered. -/
def fillL (s : ByteArray) (k : Nat) : List Int := lowL ((nums s).take k) ++ (nums s).drop k
theorem fillL_len (s : ByteArray) (k : Nat) : (fillL s k).length = s.size := by
  unfold fillL lowL
  rw [List.length_append, List.length_map, List.length_take, List.length_drop, nums_length]
  omega
theorem fillL_zero (s : ByteArray) : fillL s 0 = nums s := by unfold fillL lowL; simp
theorem fillL_end (s : ByteArray) : fillL s s.size = lowL (nums s) := by
  unfold fillL
  rw [← nums_length s, List.take_length, List.drop_length, List.append_nil]
theorem nums_take (s : ByteArray) (k : Nat) (h : k < s.size) : (nums s).take (k + 1) = (nums s).take k ++ [(s[k].toNat : Int)] := by
  have h1 := nums_drop s k h
  rw [List.take_add_one]
  have h2 : (nums s)[k]? = some (s[k].toNat : Int) := by
    have := congrArg List.head? h1
    rw [List.head?_drop] at this
    exact this
  rw [h2]
  rfl
theorem fillL_at (s : ByteArray) (k : Nat) (h : k < s.size) : (fillL s k)[k]'(by rw [fillL_len]; exact h) = (s[k].toNat : Int) := by
  have hl : (lowL ((nums s).take k)).length = k := by unfold lowL; rw [List.length_map, List.length_take, nums_length]; omega
  have h3 : (fillL s k)[k]? = some (s[k].toNat : Int) := by
    unfold fillL
    rw [List.getElem?_append_right (by omega), hl, Nat.sub_self, nums_drop s k h]
    rfl
  rw [List.getElem?_eq_getElem (by rw [fillL_len]; exact h)] at h3
  exact Option.some.inj h3
theorem fillL_step (s : ByteArray) (k : Nat) (h : k < s.size) : fillL s (k + 1) = (fillL s k).set k (lowB (s[k].toNat : Int)) := by
  have hl : (lowL ((nums s).take k)).length = k := by unfold lowL; rw [List.length_map, List.length_take, nums_length]; omega
  unfold fillL
  rw [List.set_append_right _ _ (by omega), hl, Nat.sub_self, nums_drop s k h, nums_take s k h]
  unfold lowL
  rw [List.map_append, List.append_assoc]
  rfl
theorem or32 (c : Nat) (h0 : 65 ≤ c) (h1 : c ≤ 90) : bits .or .u8 (c : Int) 32 = (c : Int) + 32 := by
  have h := List.all_eq_true.1 (show ((List.range 256).all fun c => decide (65 ≤ c ∧ c ≤ 90 → bits .or .u8 (c : Int) 32 = (c : Int) + 32)) = true by decide +kernel) c (List.mem_range.2 (by omega))
  exact of_decide_eq_true h ⟨h0, h1⟩
end Go.Proofs.Yteefopeclfojiaa
/- 
  Bytes as numbers; the library's index of a text, step by step. No program in sight.
 -/
namespace Go.Proofs.Yteefopeclfojiaa
open Go.Lib
theorem index_cons (c : UInt8) (t sub : List UInt8) (hn : sub.isPrefixOf (c :: t) = false) : Lib.index (c :: t) sub = if Lib.index t sub = -1 then -1 else Lib.index t sub + 1 := by
  rw [Lib.index, hn]
  simp
theorem index_pre (s sub : List UInt8) (h : sub.isPrefixOf s = true) : Lib.index s sub = 0 := Lib.index_first (i := 0) (Nat.zero_le _) (by simpa [Lib.occAt] using h) (fun _ h => absurd h (Nat.not_lt_zero _))
/-- bytes as numbers. -/
def numsL (l : List UInt8) : List Int := l.map fun c => (c.toNat : Int)
theorem numsL_of (s : ByteArray) : numsL s.data.toList = nums s := rfl
theorem numsL_mk (l : List UInt8) : nums ⟨l.toArray⟩ = numsL l := by unfold nums numsL; simp
theorem u8_eq (c : UInt8) (n : Nat) (hn : n < 256) : (c.toNat : Int) = (n : Int) ↔ c = UInt8.ofNat n := by
  constructor
  · intro h
    apply UInt8.toNat_inj.1
    rw [UInt8.toNat_ofNat']
    omega
  · intro h
    rw [h, UInt8.toNat_ofNat']
    omega
end Go.Proofs.Yteefopeclfojiaa
/- 
  A map that the call itself has made, keyed by integers: its block as a list of pairs; look-up and store as equations.
 -/
namespace Go.Proofs.Yteefopeclfojiaa
open Go.RowKit
/-- block b is a map whose entries are these pairs, in the order of their birth. -/
def IMap (W : World) (kk : IntKind) (b : Nat) (L : List (Int × Value)) : Prop :=
  ∃ es clock, W.heap[b]? = some (.map es clock) ∧ es.toList.map (fun e => (e.key, e.val)) = L.map (fun p => (Value.int kk p.1, p.2))
def aGet : List (Int × Value) → Int → Option Value
  | [], _ => none
  | p :: r, k => if p.1 == k then some p.2 else aGet r k
def aPut : List (Int × Value) → Int → Value → List (Int × Value)
  | [], k, v => [(k, v)]
  | p :: r, k, v => if p.1 == k then (p.1, v) :: r else p :: aPut r k v
theorem aGet_put (L : List (Int × Value)) (k : Int) (v : Value) (k' : Int) : aGet (aPut L k v) k' = if k' = k then some v else aGet L k' := by
  induction L with
  | nil =>
    rw [aPut, aGet, aGet]
    by_cases h : k' = k
    · subst h; simp
    · have : (k == k') = false := by simp; omega
      rw [if_neg (by rw [this]; decide), if_neg h]; rfl
  | cons p r ih =>
    rw [aPut]
    by_cases h : p.1 = k
    · have e : (p.1 == k) = true := by simp [h]
      rw [if_pos e, aGet, aGet]
      by_cases h' : k' = k
      · rw [if_pos h', if_pos (by simp [h, h'])]
      · rw [if_neg h', if_neg (by simp; omega), if_neg (by simp; omega)]
    · have e : (p.1 == k) = false := by simpa using h
      rw [if_neg (by rw [e]; decide), aGet, aGet, ih]
      by_cases h' : k' = k
      · rw [if_pos h', if_pos h', if_neg (by simp; omega)]
      · rw [if_neg h', if_neg h']
theorem findNow_int (kk : IntKind) (k : Int) : ∀ (es : List MapEntry) (L : List (Int × Value)) (i : Nat), es.map (fun e => (e.key, e.val)) = L.map (fun p => (Value.int kk p.1, p.2)) →
    (aGet L k = none ∧ Instr.findNow (.int kk) (.int kk k) es i = some none ∧ aPut L k = fun v => L ++ [(k, v)]) ∨
    (∃ v j e, aGet L k = some v ∧ Instr.findNow (.int kk) (.int kk k) es i = some (some (i + j, v)) ∧ es[j]? = some e ∧ e.key = .int kk k ∧
      ∀ u, (es.modify j fun e => { e with key := .int kk k, val := u }).map (fun e => (e.key, e.val)) = (aPut L k u).map (fun p => (Value.int kk p.1, p.2)))
  | [], L, i, h => by
    obtain rfl : L = [] := by simpa using h.symm
    exact .inl ⟨rfl, rfl, rfl⟩
  | e :: es, [], i, h => by simp at h
  | e :: es, p :: L, i, h => by
    simp only [List.map_cons, List.cons.injEq, Prod.mk.injEq] at h
    obtain ⟨⟨h1, h2⟩, h3⟩ := h
    have hs : Instr.sameNow (.int kk) (.int kk k) e.key = some (k == p.1) := by rw [h1]; simp [Instr.sameNow]
    by_cases hk : p.1 = k
    · right
      refine ⟨p.2, 0, e, by simp [aGet, hk], ?_, rfl, by rw [h1, hk], ?_⟩
      · rw [Instr.findNow, hs, hk]; simp [h2]
      · intro u
        simp only [List.modify_zero_cons, List.map_cons, h3]
        rw [aPut, if_pos (by simp [hk])]
        simp [hk]
    · have hk' : (k == p.1) = false := by simp; omega
      have hk2 : (p.1 == k) = false := by simpa using hk
      rcases findNow_int kk k es L (i + 1) h3 with ⟨g1, g2, g3⟩ | ⟨v, j, e', g1, g2, g3, g4, g5⟩
      · left
        refine ⟨by rw [aGet, if_neg (by rw [hk2]; decide)]; exact g1, by rw [Instr.findNow, hs, hk']; exact g2, ?_⟩
        funext v
        rw [aPut, if_neg (by rw [hk2]; decide), g3]; rfl
      · right
        refine ⟨v, j + 1, e', by rw [aGet, if_neg (by rw [hk2]; decide)]; exact g1, ?_, by simpa using g3, g4, ?_⟩
        · rw [Instr.findNow, hs, hk']
          rw [g2]
          simp only [Option.some.injEq, Prod.mk.injEq, and_true]
          omega
        · intro u
          simp only [List.modify_succ_cons, List.map_cons, g5 u]
          rw [aPut, if_neg (by rw [hk2]; decide), List.map_cons, h1, h2]
theorem IMap.lookup {W : World} {kk : IntKind} {b : Nat} {L : List (Int × Value)} (h : IMap W kk b L) {t kt et : TypeId} (ht : Try.prog.underlying t = some (.map kt et)) (hk : Try.prog.underlying kt = some (.int kk)) (z : Value)
    (hz : (zeroValue et).run Try.prog W = .ok z W) (k : Int) :
    (Instr.lookup t (.map (some b)) (.int kk k) true).run Try.prog W = .ok (.tuple #[(aGet L k).getD z, .bool (aGet L k).isSome]) W ∧
    (Instr.lookup t (.map (some b)) (.int kk k) false).run Try.prog W = .ok ((aGet L k).getD z) W := by
  obtain ⟨es, clock, hb, hL⟩ := h
  have hg := MapKept.run_getObj_map (P := Try.prog) hb
  have hck : ∀ em, (Instr.checkKey em 10000 kt (.int kk k)).run Try.prog W = .ok () W := fun em => MapKept.run_checkKey hk (by simp [MapKept.IsKey]) em 9999
  rcases findNow_int kk k es.toList L 0 hL with ⟨g1, g2, _⟩ | ⟨v, j, e, g1, g2, _⟩
  · have hf : (Instr.findKey kt (.int kk k) es.toList).run Try.prog W = .ok none W := by simp [Instr.findKey, run_underlying hk, g2]
    constructor <;> simp [Instr.lookup, run_underlying ht, hg, hck, hf, hz, g1, Result.andThen]
  · have hf : (Instr.findKey kt (.int kk k) es.toList).run Try.prog W = .ok (some (0 + j, v)) W := by simp only [Instr.findKey, Sem.run_bind, run_underlying hk, Result.andThen_ok, g2, Sem.run_pure]
    constructor <;> simp [Instr.lookup, run_underlying ht, hg, hck, hf, g1, Result.andThen]
open Go.ChangeMaps in
theorem IMap.update {W : World} {kk : IntKind} {b : Nat} {L : List (Int × Value)} (h : IMap W kk b L) {t kt et : TypeId} (ht : Try.prog.underlying t = some (.map kt et)) (hk : Try.prog.underlying kt = some (.int kk)) (k : Int) (v : Value) :
    ∃ w', (Instr.mapUpdate t (.map (some b)) (.int kk k) v).run Try.prog W = .ok () w' ∧ IMap w' kk b (aPut L k v) ∧ W.grownBy w' (some b) := by
  obtain ⟨es, clock, hb, hL⟩ := h
  have hg := MapKept.run_getObj_map (P := Try.prog) hb
  have hck : ∀ em, (Instr.checkKey em 10000 kt (.int kk k)).run Try.prog W = .ok () W := fun em => MapKept.run_checkKey hk (by simp [MapKept.IsKey]) em 9999
  have hgr : ∀ o : Obj, W.grownBy (setBlock W b o) (some b) := fun o => ⟨rfl, rfl, rfl, by simp [setBlock], fun i _ hi => heap_setBlock_other hb _ (fun e => hi (by rw [e]))⟩
  rcases findNow_int kk k es.toList L 0 hL with ⟨g1, g2, g3⟩ | ⟨u, j, e, g1, g2, g3, g4, g5⟩
  · have hf : (Instr.findKey kt (.int kk k) es.toList).run Try.prog W = .ok none W := by simp [Instr.findKey, run_underlying hk, g2]
    refine ⟨setBlock W b (.map (es.push { key := .int kk k, val := v, born := clock }) (clock + 1)), ?_, ⟨_, _, heap_setBlock_same hb _, ?_⟩, hgr _⟩
    · simp [Instr.mapUpdate, run_underlying ht, hg, hck, hf, MapKept.run_setObj_map _ hb, Result.andThen, setBlock]
    · rw [g3]; simp [hL]
  · have hf : (Instr.findKey kt (.int kk k) es.toList).run Try.prog W = .ok (some (0 + j, u)) W := by simp only [Instr.findKey, Sem.run_bind, run_underlying hk, Result.andThen_ok, g2, Sem.run_pure]
    have hj : es[j]? = some e := by rw [← Array.getElem?_toList]; exact g3
    refine ⟨setBlock W b (.map (es.modify j fun e => { e with key := .int kk k, val := v }) clock), ?_, ⟨_, _, heap_setBlock_same hb _, ?_⟩, hgr _⟩
    · simp [Instr.mapUpdate, run_underlying ht, hg, hck, hf, hj, g4, MapKept.run_keyThatStays (d := .int kk) (k := .int kk k) (by simp [MapKept.IsKey]), MapKept.run_setObj_map _ hb, Result.andThen, setBlock]
    · rw [Array.toList_modify]; exact g5 v
theorem IMap.kept {W W' : World} {kk : IntKind} {b : Nat} {L : List (Int × Value)} (h : IMap W kk b L) {row : Option Nat} (hg : W.grownBy W' row) (hne : some b ≠ row) : IMap W' kk b L := by
  obtain ⟨es, clock, hb, hL⟩ := h
  exact ⟨es, clock, (hg.block b (Array.getElem?_eq_some_iff.1 hb).1 hne).trans hb, hL⟩
theorem IMap.row {W W' : World} {kk : IntKind} {b : Nat} {L : List (Int × Value)} (h : IMap W kk b L) {base : Nat} {e : TypeId} {size : Nat} {v : Value} {n : Nat} {xs : List Value} (hown : W.ownsRow base e size v n xs) (hg : W.grownBy W' v.ownBlock) : IMap W' kk b L := by
  refine h.kept hg fun e' => ?_
  obtain ⟨es, clock, hb, _⟩ := h
  rcases hown.2 with ⟨rfl, _⟩ | ⟨g, cap, cur, rfl, _, hgb, _⟩
  · simp [Value.ownBlock] at e'
  · obtain rfl : b = g := by simpa [Value.ownBlock] using e'
    rw [hb] at hgb
    cases hgb
theorem IMap.lt {W : World} {kk : IntKind} {b : Nat} {L : List (Int × Value)} (h : IMap W kk b L) : b < W.heap.size := by
  obtain ⟨es, clock, hb, _⟩ := h
  exact (Array.getElem?_eq_some_iff.1 hb).1
theorem IMap.below {W W' : World} {kk : IntKind} {b : Nat} {L : List (Int × Value)} (h : IMap W kk b L) {B : Nat} (hb : Below B W W') (hB : W.heap.size ≤ B) : IMap W' kk b L := by
  obtain ⟨es, clock, he, hL⟩ := h
  exact ⟨es, clock, (hb.block b (Nat.lt_of_lt_of_le (Array.getElem?_eq_some_iff.1 he).1 hB)).trans he, hL⟩
theorem IMap.made (W : World) (kk : IntKind) : IMap (W.alloc (.map #[] 0)) kk W.heap.size [] := ⟨#[], 0, heap_alloc_new W _, rfl⟩
theorem IMap.alloc {W : World} {kk : IntKind} {b : Nat} {L : List (Int × Value)} (h : IMap W kk b L) (o : Obj) : IMap (W.alloc o) kk b L := h.kept (World.grownBy_alloc W o none) (by simp)
end Go.Proofs.Yteefopeclfojiaa
