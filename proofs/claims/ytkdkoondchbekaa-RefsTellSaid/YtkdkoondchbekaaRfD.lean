/-
  The walk of refs.pieces (an iterator): a text's pieces; what Strict makes of them, in plain terms.
-/
import Derived.Test.YtkdkoondchbekaaRfC
import Derived.Test.YtkdkoondchbekaaBk
namespace Go.Proofs.Ytkdkoondchbekaa
open Go.RowKit Go.Shelf
attribute [local go_sem] Oper.semAt_some
/-- bytes up to the first ampersand. -/
def runN (l : List Int) : List Int := l.takeWhile (· != 38)
theorem runN_len (l : List Int) : (runN l).length ≤ l.length := by unfold runN; induction l with
  | nil => simp
  | cons c t ih => rw [List.takeWhile_cons]; split <;> simp <;> omega
theorem runN_drop (l : List Int) : l = runN l ++ l.drop (runN l).length := by
  unfold runN
  induction l with
  | nil => rfl
  | cons c t ih =>
    rw [List.takeWhile_cons]
    split
    · rw [List.length_cons, List.drop_succ_cons, List.cons_append, ← ih]
    · rfl
theorem runN_take (l : List Int) : l.take (runN l).length = runN l := by
  obtain ⟨a, ha⟩ : ∃ a, runN l = a := ⟨_, rfl⟩
  obtain ⟨b, hb⟩ : ∃ b, l.drop (runN l).length = b := ⟨_, rfl⟩
  have h := runN_drop l
  rw [hb, ha] at h
  rw [ha, h]
  simp
theorem runN_38 (l : List Int) : 38 ∉ runN l := by
  unfold runN
  intro h
  have := List.all_eq_true.1 (List.all_takeWhile (p := fun x : Int => x != 38) (l := l)) 38 h
  simp at this
theorem runN_pos {c : Int} (t : List Int) (h : c ≠ 38) : runN (c :: t) = c :: runN t := by
  unfold runN
  rw [List.takeWhile_cons, if_pos (by simpa using h)]
/-- a text's pieces: where each begins, whether it is a reference, what it says. -/
def prS : Nat → Nat → List Int → List (Nat × Bool × List Int)
  | _, _, [] => []
  | 0, _, _ :: _ => []
  | f + 1, a, c :: t =>
    if c = 38 then match endN t with
      | some n => (a, true, t.take n) :: prS f (a + n + 2) (t.drop (n + 1))
      | none => (a, false, [38]) :: prS f (a + 1) t
    else (a, false, runN (c :: t)) :: prS f (a + (runN (c :: t)).length) ((c :: t).drop (runN (c :: t)).length)
theorem prS_fuel : ∀ (f g a : Nat) (l : List Int), l.length ≤ f → l.length ≤ g → prS f a l = prS g a l
  | _, _, _, [], _, _ => by simp [prS]
  | 0, _, _, _ :: _, h, _ => by simp at h
  | _, 0, _, _ :: _, _, h => by simp at h
  | f + 1, g + 1, a, c :: t, hf, hg => by
    simp only [List.length_cons] at hf hg
    rw [prS, prS]
    by_cases hc : c = 38
    · rw [if_pos hc, if_pos hc]
      cases e : endN t with
      | none =>
        show _ :: prS f (a + 1) t = _ :: prS g (a + 1) t
        rw [prS_fuel f g (a + 1) t (by omega) (by omega)]
      | some n =>
        show _ :: prS f _ _ = _ :: prS g _ _
        rw [prS_fuel f g (a + n + 2) (t.drop (n + 1)) (by rw [List.length_drop]; omega) (by rw [List.length_drop]; omega)]
    · rw [if_neg hc, if_neg hc]
      have h1 : 1 ≤ (runN (c :: t)).length := by rw [runN_pos t hc]; simp
      rw [prS_fuel f g _ _ (by rw [List.length_drop, List.length_cons]; omega) (by rw [List.length_drop, List.length_cons]; omega)]
def prN (a : Nat) (l : List Int) : List (Nat × Bool × List Int) := prS l.length a l
theorem prN_nil (a : Nat) : prN a [] = [] := by simp [prN, prS]
theorem prN_run {c : Int} (a : Nat) (t : List Int) (h : c ≠ 38) : prN a (c :: t) = (a, false, runN (c :: t)) :: prN (a + (runN (c :: t)).length) ((c :: t).drop (runN (c :: t)).length) := by
  unfold prN
  have h1 : 1 ≤ (runN (c :: t)).length := by rw [runN_pos t h]; simp
  rw [List.length_cons, prS, if_neg h, prS_fuel t.length _ _ ((c :: t).drop (runN (c :: t)).length) (by rw [List.length_drop, List.length_cons]; omega) (Nat.le_refl _)]
theorem prN_amp (a : Nat) (t : List Int) (h : endN t = none) : prN a (38 :: t) = (a, false, [38]) :: prN (a + 1) t := by
  unfold prN
  rw [List.length_cons, prS, if_pos rfl, h]
theorem prN_ref (a : Nat) (t : List Int) (n : Nat) (h : endN t = some n) : prN a (38 :: t) = (a, true, t.take n) :: prN (a + n + 2) (t.drop (n + 1)) := by
  unfold prN
  rw [List.length_cons, prS, if_pos rfl, h]
  show _ :: prS t.length _ _ = _
  rw [prS_fuel t.length _ _ (t.drop (n + 1)) (by rw [List.length_drop]; omega) (Nat.le_refl _)]
/-- what Strict makes of pieces. -/
def goodS (p : Nat × Bool × List Int) : Bool := (!p.2.1 && decide (p.2.2 ≠ [38])) || (p.2.1 && (scaN p.2.2).2)
def outS (p : Nat × Bool × List Int) : List Int := if !p.2.1 && decide (p.2.2 ≠ [38]) then p.2.2 else encN (scaN p.2.2).1
def strP : List (Nat × Bool × List Int) → Sum Nat (List Int)
  | [] => .inr []
  | p :: r => if goodS p then onR (outS p) (strP r) else .inl p.1
theorem strP_pr : ∀ (f : Nat) (l : List Int) (a : Nat), l.length ≤ f → strP (prN a l) = strictN a l
  | _, [], a, _ => by rw [prN_nil, strictN_nil]; rfl
  | 0, _ :: _, _, h => by simp at h
  | f + 1, c :: t, a, h => by
    simp only [List.length_cons] at h
    by_cases hc : c = 38
    · subst hc
      rw [strictN_ref]
      cases e : endN t with
      | none =>
        rw [prN_amp a t e, strP, if_neg (by simp [goodS])]
      | some n =>
        rw [prN_ref a t n e, strP]
        dsimp only
        have hg : goodS (a, true, t.take n) = (scaN (t.take n)).2 := by simp [goodS]
        rw [hg]
        cases hs : (scaN (t.take n)).2 with
        | true =>
          rw [if_pos rfl, if_pos rfl, strP_pr f _ _ (by rw [List.length_drop]; omega)]
          simp [outS]
        | false => rw [if_neg (by decide), if_neg (by decide)]
    · have h1 : 1 ≤ (runN (c :: t)).length := by rw [runN_pos t hc]; simp
      have hne : runN (c :: t) ≠ [38] := by
        intro e
        have := runN_38 (c :: t)
        rw [e] at this
        exact this (by simp)
      rw [prN_run a t hc, strP, if_pos (by simp [goodS, hne]), strP_pr f _ _ (by rw [List.length_drop, List.length_cons]; omega)]
      conv => rhs; rw [runN_drop (c :: t)]
      rw [strictN_plain _ _ _ (runN_38 _)]
      simp [outS, hne]
theorem strP_all : ∀ (l : List (Nat × Bool × List Int)), (∀ p ∈ l, goodS p = true) → strP l = .inr (l.flatMap outS)
  | [], _ => rfl
  | p :: r, h => by
    rw [strP, if_pos (h p (List.mem_cons_self ..)), strP_all r fun q hq => h q (List.mem_cons_of_mem _ hq)]
    rfl
theorem strP_stop : ∀ (l g : List (Nat × Bool × List Int)) (x : Nat × Bool × List Int), (g ++ [x]) <+: l → (∀ p ∈ g, goodS p = true) → goodS x = false → strP l = .inl x.1
  | [], g, x, h, _, _ => by have := h.length_le; simp at this
  | p :: r, [], x, h, _, hx => by
    obtain ⟨t, ht⟩ := h
    have e : x = p := by injection ht
    rw [e] at hx
    rw [strP, if_neg (by rw [hx]; decide), e]
  | p :: r, y :: g, x, h, hg, hx => by
    rw [List.cons_append, List.cons_prefix_cons] at h
    have h1 := hg y (List.mem_cons_self ..)
    rw [h.1] at h1
    rw [strP, if_pos h1, strP_stop r g x h.2 (fun q hq => hg q (List.mem_cons_of_mem _ hq)) hx]
    rfl
/-- how much the pieces are long. -/
theorem prN_bound : ∀ (f : Nat) (l : List Int) (a : Nat), l.length ≤ f → (prN a l).length ≤ l.length ∧ ((prN a l).flatMap outS).length ≤ 4 * l.length ∧ (∀ p ∈ prN a l, p.2.2.length ≤ l.length)
  | _, [], a, _ => by rw [prN_nil]; simp
  | 0, _ :: _, _, h => by simp at h
  | f + 1, c :: t, a, h => by
    simp only [List.length_cons] at h
    by_cases hc : c = 38
    · subst hc
      cases e : endN t with
      | none =>
        obtain ⟨i1, i2, i3⟩ := prN_bound f t (a + 1) (by omega)
        have he : (outS (a, false, [38])).length ≤ 4 := by simp [outS]; exact encN_len _
        rw [prN_amp a t e, List.flatMap_cons, List.length_append, List.length_cons, List.length_cons]
        refine ⟨by omega, by omega, fun p hp => ?_⟩
        rw [List.mem_cons] at hp
        rcases hp with rfl | hp
        · simp
        · have := i3 p hp; omega
      | some n =>
        have hn := endN_lt t n e
        obtain ⟨i1, i2, i3⟩ := prN_bound f (t.drop (n + 1)) (a + n + 2) (by rw [List.length_drop]; omega)
        rw [List.length_drop] at i1 i2 i3
        have he : (outS (a, true, t.take n)).length ≤ 4 := by simp [outS]; exact encN_len _
        rw [prN_ref a t n e, List.flatMap_cons, List.length_append, List.length_cons, List.length_cons]
        refine ⟨by omega, by omega, fun p hp => ?_⟩
        rw [List.mem_cons] at hp
        rcases hp with rfl | hp
        · simp; omega
        · have := i3 p hp; omega
    · have h1 : 1 ≤ (runN (c :: t)).length := by rw [runN_pos t hc]; simp
      have h2 := runN_len (c :: t)
      have hne : runN (c :: t) ≠ [38] := by
        intro e
        have := runN_38 (c :: t)
        rw [e] at this
        exact this (by simp)
      obtain ⟨i1, i2, i3⟩ := prN_bound f ((c :: t).drop (runN (c :: t)).length) (a + (runN (c :: t)).length) (by rw [List.length_drop, List.length_cons]; omega)
      rw [List.length_drop] at i1 i2 i3
      simp only [List.length_cons] at h2 i1 i2 i3
      have he : outS (a, false, runN (c :: t)) = runN (c :: t) := by simp [outS, hne]
      rw [prN_run a t hc, List.flatMap_cons, List.length_append, List.length_cons, List.length_cons, he]
      refine ⟨by omega, by omega, fun p hp => ?_⟩
      rw [List.mem_cons] at hp
      rcases hp with rfl | hp
      · exact h2
      · have := i3 p hp; omega
theorem ib38 : ∀ (u : List UInt8), Lib.indexByte u 38 = if 38 ∈ numsL u then ((runN (numsL u)).length : Int) else -1
  | [] => rfl
  | c :: t => by
    have ih := ib38 t
    by_cases hc : c = 38
    · subst hc
      have : 38 ∈ numsL (38 :: t) := by simp [numsL]
      rw [if_pos this]
      rfl
    · have hn : ¬ ((c.toNat : Int) = 38) := fun e => hc ((u8_eq c 38 (by decide)).1 e)
      have hn' : ¬ ((38 : Int) = (c.toNat : Int)) := fun e => hn e.symm
      have hcb : (c == 38) = false := by simpa using hc
      have e1 : numsL (c :: t) = (c.toNat : Int) :: numsL t := rfl
      have e2 : Lib.indexByte (c :: t) 38 = if Lib.indexByte t 38 == -1 then -1 else Lib.indexByte t 38 + 1 := by rw [Lib.indexByte, hcb]; rfl
      rw [e2, e1, runN_pos _ hn, ih]
      by_cases hm : 38 ∈ numsL t
      · have hm2 : 38 ∈ (c.toNat : Int) :: numsL t := List.mem_cons_of_mem _ hm
        rw [if_pos hm, if_pos hm2]
        have : ((((runN (numsL t)).length : Int)) == -1) = false := by simp
        rw [this]
        simp
      · have hm2 : ¬ 38 ∈ (c.toNat : Int) :: numsL t := by rw [List.mem_cons, not_or]; exact ⟨hn', hm⟩
        rw [if_neg hm, if_neg hm2]
        rfl
theorem runN_all {l : List Int} (h : 38 ∉ l) : runN l = l := by
  unfold runN
  induction l with
  | nil => rfl
  | cons c t ih =>
    rw [List.mem_cons, not_or] at h
    rw [List.takeWhile_cons, if_pos (by simpa using fun e : c = 38 => h.1 e.symm), ih h.2]
/-- what a round that goes on keeps: the text's box, and each piece's block. -/
def KeepsPc (B : Nat) (W W' : World) : Prop := W'.cell? ⟨B, 0, none⟩ = W.cell? ⟨B, 0, none⟩ ∧ ∀ (k : Nat) (cs : Array Value) (m : Nat × Nat), W.heap[k]? = some (.cells cs 51 m) → W'.heap[k]? = some (.cells cs 51 m)
theorem keepsPc_r (B : Nat) (W : World) : KeepsPc B W W := ⟨rfl, fun _ _ _ h => h⟩
theorem keepsPc_t {Bs : Nat} {A B C : World} (h : KeepsPc Bs A B) (k : KeepsPc Bs B C) : KeepsPc Bs A C := ⟨Eq.trans k.1 h.1, fun i cs m hi => k.2 i cs m (h.2 i cs m hi)⟩
theorem keepsPc_b {Bs : Nat} {w : World} (hB : Bs < w.heap.size) (W : World) (l : Nat) (_o o' : Obj) (hl : w.heap.size ≤ l) (hW : W.heap[l]? = some _o) (hc : _o.isCells = false) (_ : _o.isWalk = false) : KeepsPc Bs W (W.putObj l o') := by
  refine ⟨World.cell?_of_block ((grownBy_putObj' W l o').block Bs (by have := (Array.getElem?_eq_some_iff.1 hW).1; omega) (by simp; omega)), fun k _ _ hk => ?_⟩
  refine ((grownBy_putObj' W l o').block k (Array.getElem?_eq_some_iff.1 hk).1 (fun e => ?_)).trans hk
  injection e with e
  subst e
  rw [hk] at hW
  cases hW
  cases hc
theorem keepsPc_below {Bs : Nat} {A B : World} (hB : Bs < A.heap.size) (h : Below A.heap.size A B) : KeepsPc Bs A B :=
  ⟨h.cell (p := ⟨Bs, 0, none⟩) hB, fun k _ _ hk => (h.block k (Array.getElem?_eq_some_iff.1 hk).1).trans hk⟩
theorem keepsPc_kept {Bs b base : Nat} {A B : World} (h : Kept A B b base) (hne : Bs ≠ b) (hlt : Bs < base) (hbt : ∀ cs m, A.heap[b]? ≠ some (.cells cs 51 m)) : KeepsPc Bs A B :=
  ⟨World.cell?_of_block (h.low Bs hlt hne), fun k _ _ hk => h.typ k _ _ _ (by decide) (fun e => by subst e; exact hbt _ _ hk) hk⟩
/-- a piece as a value. -/
def pcV (x : Nat × Bool × List Int) : Value := .agg #[.int .i64 (x.1 : Nat), .bool x.2.1, .string (strOfNums x.2.2)]
theorem cellBlock_lt {w : World} {b : Nat} {v : Value} (h : w.cell? ⟨b, 0, none⟩ = some v) : b < w.heap.size := by
  simp only [World.cell?] at h
  by_cases hlt : b < w.heap.size
  · exact hlt
  · rw [Array.getElem?_eq_none (by omega)] at h; simp at h
theorem grown_of_below {w w' : World} (hb : Below w.heap.size w w') (row : Option Nat) : w.grownBy w' row := ⟨hb.os, hb.tape, hb.output, hb.size, fun b hb' _ => hb.block b hb'⟩
set_option maxHeartbeats 1000000 in
theorem refs_pieces_in (F : Fence) (n : Nat) (h27 : F.fn 24) (hro : F.round = none) (s : ByteArray) (w : World) :
    CallsIn F n Try.prog 24 #[.string s] w fun e w' => e = .returned (.func (.func 43) #[] #[.pointer (some ⟨w.heap.size, 0, none⟩)]) ∧ w' = w.alloc (.cells #[.string s] 9) := by
  refine callsIn_of_wp Try.func24 rfl h27 ?_ hro
  simp only [Try.ntmps24, List.size_toArray, List.length_cons, List.length_nil, Nat.reduceAdd, Nat.reduceSub, Array.replicate_succ, Array.replicate_zero, List.push_toArray, List.append_toArray, List.nil_append, List.cons_append]
  gi_wp2
  go_ret
  exact ⟨rfl, rfl⟩
theorem num_ext (s : ByteArray) (a b : Nat) : nums (s.extract a b) = ((nums s).drop a).take (b - a) := nums_extract s a b
theorem ext_str (s : ByteArray) (a b : Nat) : s.extract a b = strOfNums (((nums s).drop a).take (b - a)) := by rw [← num_ext, strOfNums_nums]
set_option maxRecDepth 100000 in
set_option maxHeartbeats 4000000 in
theorem refs_pieces1_in (n : Nat) (hn : 1 ≤ n) (l Bs : Nat) (s : ByteArray) (hs : s.size ≤ 1099511627776) (J Jx : List (Nat × Bool × List Int) → World → Prop) (B0 : Nat) (hab : AbidesFrom B0 J)
    (hY : ∀ pre x W, J pre W → (pre ++ [x]) <+: prN 0 (nums s) → pre.length < s.size → YieldAt Fence.wide (n - 1) Try.prog l #[pcV x] W fun e W' =>
      (e = .returned (.bool true) ∧ J (pre ++ [x]) W' ∧ KeepsPc Bs W W') ∨ (e = .returned (.bool false) ∧ Jx (pre ++ [x]) W'))
    (W : World) (_hBw : Bs < W.heap.size) (hBs : W.cell? ⟨Bs, 0, none⟩ = some (.string s)) (h0 : J [] W) :
    CallsIn Fence.wide n Try.prog 43 #[.func (.yield l) #[] #[], .pointer (some ⟨Bs, 0, none⟩)] W fun e W' => (∃ v, e = .returned v) ∧
      ((∃ ys, ys = prN 0 (nums s) ∧ J ys W') ∨ (∃ pre, pre <+: prN 0 (nums s) ∧ Jx pre W')) := by
  refine callsIn_of_wp Try.func43 rfl trivial ?_ rfl
  simp only [Try.ntmps43, List.size_toArray, List.length_cons, List.length_nil, Nat.reduceAdd, Nat.reduceSub, Array.replicate_succ, Array.replicate_zero, List.push_toArray, List.append_toArray, List.nil_append, List.cons_append]
  gi_wp2
  gi_loopw [3] (fun a wr => ∃ (k : Nat) (done : List (Nat × Bool × List Int)), a = .int .i64 k ∧ k ≤ s.size ∧ done.length ≤ k ∧ Hid (prN 0 (nums s) = done ++ prN k ((nums s).drop k)) ∧ J done wr ∧ wr.cell? ⟨Bs, 0, none⟩ = some (.string s))
    (fun a _ => s.size - (intOf a).toNat)
  case atStart => exact ⟨0, [], rfl, by omega, by simp, Lib.hid (by simp), h0, hBs⟩
  case round =>
    obtain ⟨k, done, rfl, hk, hdk, HQ, hJ, hc⟩ := hrel
    have hBr := cellBlock_lt hc
    by_cases hlt : k < s.size
    · obtain ⟨c, hc0⟩ : ∃ c : Int, (s[k].toNat : Int) = c := ⟨_, rfl⟩
      have hdr := nums_drop s k hlt
      rw [hc0] at hdr
      obtain ⟨R, hR⟩ : ∃ R, s.extract k s.size = R := ⟨_, rfl⟩
      have hnR : nums R = (nums s).drop k := by rw [← hR, num_ext, List.take_of_length_le (by rw [List.length_drop, nums_length]; omega)]
      have hRs : R.size = s.size - k := by rw [← nums_length, hnR, List.length_drop, nums_length]
      have hIB : ∀ w, Calls Try.prog 35 #[.string R, .int .u8 38] w fun e w' => e = .returned (.int .i64 (if 38 ∈ nums R then ((runN (nums R)).length : Int) else -1)) ∧ w' = w := fun w => by
        have h := Try.strings_IndexByte R 38 w
        rw [show Lib.indexByte R.data.toList (38 : Int).toNat.toUInt8 = Lib.indexByte R.data.toList 38 from rfl, ib38, numsL_of] at h
        exact h
      have hkk : (k : Int) ≤ (s.size : Int) := by omega
      by_cases h38 : c = 38
      · have hmem : 38 ∈ nums R := by rw [hnR, hdr, h38]; simp
        have hr0 : (runN (nums R)).length = 0 := by rw [hnR, hdr, h38]; rfl
        rw [if_pos hmem, hr0] at hIB
        have HIB := Lib.hid hIB
        obtain ⟨T2, hT2⟩ : ∃ R, s.extract (k + 1) s.size = R := ⟨_, rfl⟩
        have hnT2 : nums T2 = (nums s).drop (k + 1) := by rw [← hT2, num_ext, List.take_of_length_le (by rw [List.length_drop, nums_length]; omega)]
        have hT2s : T2.size ≤ 1099511627776 := by rw [← nums_length, hnT2, List.length_drop, nums_length]; omega
        have HEN := Lib.hid (fun w => refs_ends T2 w hT2s)
        have hk1 : (k : Int) + 1 ≤ (s.size : Int) := by omega
        have hJs := hJ
        clear hIB hmem hr0
        cases hen : endN ((nums s).drop (k + 1)) with
        | none =>
          have hpr := prN_amp k ((nums s).drop (k + 1)) hen
          have hdr38 : (nums s).drop k = 38 :: (nums s).drop (k + 1) := by rw [hdr, h38]
          rw [← hdr38] at hpr
          have HE := Lib.hid (show endI (nums T2) = -1 by rw [hnT2]; unfold endI; rw [hen])
          have HD : Hid (prN 0 (nums s) = (done ++ [(k, false, [38])]) ++ prN (k + 1) ((nums s).drop (k + 1))) := Lib.hid (by rw [HQ.out, hpr]; simp)
          clear hpr hen hdr38 hdr hc0 hnT2 hnR h38
          obtain ⟨A, hA⟩ : ∃ A : ByteArray, A = ⟨#[38]⟩ := ⟨_, rfl⟩
          gi_wp2_with (refine ⟨trivial, ?_⟩; gi_at_call 35; refine (callsIn_wide.2 (HIB.out _)).mono ?_; rintro e w' ⟨rfl, rfl⟩)
          refine ⟨trivial, ?_⟩
          refine (callsIn_wide.2 (HEN.out _)).mono ?_
          rw [HE.out]
          rintro e w2 ⟨rfl, hb2⟩
          have hbW := ((Below.refl wr.heap.size wr).alloc (Nat.le_refl _) (.cells #[.int .i64 k, .bool false, .string ⟨#[38]⟩] 51)).trans (hb2.mono (by simp))
          have hJW := hab _ _ _ none hJs (grown_of_below hbW none) (fun r e => by cases e)
          have hPW : w2.heap[wr.heap.size]? = some (.cells #[.int .i64 k, .bool false, .string ⟨#[38]⟩] 51 (0, 0)) := (hb2.block _ (by simp)).trans (heap_alloc_new wr _)
          have hcW := (hbW.cell (p := ⟨Bs, 0, none⟩) hBr).trans hc
          have hYW : YieldAt Fence.wide (n - 1) Try.prog l #[.agg #[.int .i64 (k : Nat), .bool false, .string ⟨#[38]⟩]] w2 fun e W' =>
              (e = .returned (.bool true) ∧ J (done ++ [(k, false, [38])]) W' ∧ KeepsPc Bs w2 W') ∨ (e = .returned (.bool false) ∧ Jx (done ++ [(k, false, [38])]) W') := by
            have h := hY done (k, false, [38]) w2 hJW ⟨_, HD.out.symm⟩ (by omega)
            unfold pcV at h
            dsimp only at h
            skip
            exact h
          obtain ⟨fn, tmps, assign, body, hy, hR2⟩ := hYW
          have hp0 : w2.cell? ⟨wr.heap.size, 0, none⟩ = some (.int .i64 k) := by rw [cell_of_row w2 _ 0 _ _ _ hPW]; rfl
          have hp1' : w2.cell? ⟨wr.heap.size, 1, none⟩ = some (.bool false) := by rw [cell_of_row w2 _ 1 _ _ _ hPW]; rfl
          have hp2' : w2.cell? ⟨wr.heap.size, 2, none⟩ = some (.string ⟨#[38]⟩) := by rw [cell_of_row w2 _ 2 _ _ _ hPW]; rfl
          gi_wp2
          refine hR2.mono ?_
          rintro e W3 (⟨rfl, hJ3, hk3⟩ | ⟨rfl, hJx3⟩)
          · have hb3 := hk3.2 _ _ _ hPW
            have hp1 : W3.cell? ⟨wr.heap.size, 1, none⟩ = some (.bool false) := by rw [cell_of_row W3 _ 1 _ _ _ hb3]; rfl
            have hp2 : W3.cell? ⟨wr.heap.size, 2, none⟩ = some (.string ⟨#[38]⟩) := by rw [cell_of_row W3 _ 2 _ _ _ hb3]; rfl
            have hc3 := hk3.1.trans hcW
            clear hk3 hb3 hPW hcW hy hR2
            gi_wp2
            go_roundw
            case rel => exact ⟨k + 1, done ++ [(k, false, [38])], by go_num, by omega, by simp; omega, HD, hJ3, hc3⟩
            case measure => simp [intOf]; omega
          · gi_wp2
            refine bodyPost_ret (results_none rfl _ _ _) rfl ?_
            exact ⟨⟨_, rfl⟩, .inr ⟨_, ⟨_, HD.out.symm⟩, hJx3⟩⟩
        | some m =>
          have hpr := prN_ref k ((nums s).drop (k + 1)) m hen
          have hdr38 : (nums s).drop k = 38 :: (nums s).drop (k + 1) := by rw [hdr, h38]
          rw [← hdr38, List.drop_drop] at hpr
          have HE := Lib.hid (show endI (nums T2) = m by rw [hnT2]; unfold endI; rw [hen])
          have hml := endN_lt _ _ hen
          rw [List.length_drop, nums_length] at hml
          have hmt := endN_take _ _ hen
          obtain ⟨T, hT⟩ : ∃ T, s.extract (k + 1) (k + 1 + m) = T := ⟨_, rfl⟩
          have hTx : strOfNums (((nums s).drop (k + 1)).take m) = T := by rw [← hT, ext_str, Nat.add_sub_cancel_left]
          have hTs : T.size = m := by rw [← hT, ByteArray.size_extract]; omega
          have HT := Lib.hid hTx
          have HD : Hid (prN 0 (nums s) = (done ++ [(k, true, ((nums s).drop (k + 1)).take m)]) ++ prN (k + m + 2) ((nums s).drop (k + m + 2))) := Lib.hid (by rw [HQ.out, hpr, show k + 1 + (m + 1) = k + m + 2 by omega]; simp)
          have e1 : (k : Int) + 1 + (m : Int) ≤ (s.size : Int) := by omega
          clear hpr hen hdr38 hdr hc0 hnT2 hnR h38 hmt hTx
          obtain ⟨A, hA⟩ : ∃ A : ByteArray, A = ⟨#[38]⟩ := ⟨_, rfl⟩
          gi_wp2_with (refine ⟨trivial, ?_⟩; gi_at_call 35; refine (callsIn_wide.2 (HIB.out _)).mono ?_; rintro e w' ⟨rfl, rfl⟩)
          refine ⟨trivial, ?_⟩
          refine (callsIn_wide.2 (HEN.out _)).mono ?_
          rw [HE.out]
          rintro e w2 ⟨rfl, hb2⟩
          have hbW := ((Below.refl wr.heap.size wr).alloc (Nat.le_refl _) (.cells #[.int .i64 k, .bool false, .string ⟨#[38]⟩] 51)).trans (hb2.mono (by simp))
          have hJW := hab _ _ _ none hJs (grown_of_below hbW none) (fun r e => by cases e)
          have hPW : w2.heap[wr.heap.size]? = some (.cells #[.int .i64 k, .bool false, .string ⟨#[38]⟩] 51 (0, 0)) := (hb2.block _ (by simp)).trans (heap_alloc_new wr _)
          have hcW := (hbW.cell (p := ⟨Bs, 0, none⟩) hBr).trans hc
          have hp0 : w2.cell? ⟨wr.heap.size, 0, none⟩ = some (.int .i64 k) := by rw [cell_of_row w2 _ 0 _ _ _ hPW]; rfl
          have hp1' : w2.cell? ⟨wr.heap.size, 1, none⟩ = some (.bool false) := by rw [cell_of_row w2 _ 1 _ _ _ hPW]; rfl
          have hp2' : w2.cell? ⟨wr.heap.size, 2, none⟩ = some (.string ⟨#[38]⟩) := by rw [cell_of_row w2 _ 2 _ _ _ hPW]; rfl
          have hf1 : w2.frozen? ⟨wr.heap.size, 1, none⟩ = false := by simp [World.frozen?, hPW]
          have hf2 : w2.frozen? ⟨wr.heap.size, 2, none⟩ = false := by simp [World.frozen?, hPW]
          gi_wp2
          gi_region
          obtain ⟨WD, hWD⟩ : ∃ W, ((w2.setCell ⟨wr.heap.size, 1, none⟩ (.bool true)).setCell ⟨wr.heap.size, 2, none⟩ (.string T)).drew = W := ⟨_, rfl⟩
          have hbD : Below wr.heap.size wr WD := by rw [← hWD]; exact ((hbW.setCell (Nat.le_refl _) _).setCell (Nat.le_refl _) _).drew
          have hJD := hab _ _ _ none hJs (grown_of_below hbD none) (fun r e => by cases e)
          have hPD : WD.heap[wr.heap.size]? = some (.cells #[.int .i64 k, .bool true, .string T] 51 (0, 0)) := by
            rw [← hWD]
            show ((w2.setCell ⟨wr.heap.size, 1, none⟩ (.bool true)).setCell ⟨wr.heap.size, 2, none⟩ (.string T)).heap[wr.heap.size]? = _
            rw [heap_setCell_same _ _ _ _ _ _ (heap_setCell_same _ _ _ _ _ _ hPW)]
            rfl
          have hcD := (hbD.cell (p := ⟨Bs, 0, none⟩) hBr).trans hc
          rw [hWD]
          clear hPW hcW hJW hp0 hp1' hp2' hf1 hf2
          have hPW := hPD
          have hcW := hcD
          have hJW := hJD
          have hYW : YieldAt Fence.wide (n - 1) Try.prog l #[.agg #[.int .i64 (k : Nat), .bool true, .string T]] WD fun e W' =>
              (e = .returned (.bool true) ∧ J (done ++ [(k, true, ((nums s).drop (k + 1)).take m)]) W' ∧ KeepsPc Bs WD W') ∨ (e = .returned (.bool false) ∧ Jx (done ++ [(k, true, ((nums s).drop (k + 1)).take m)]) W') := by
            have h := hY done (k, true, ((nums s).drop (k + 1)).take m) WD hJW ⟨_, HD.out.symm⟩ (by omega)
            unfold pcV at h
            dsimp only at h
            rw [HT.out] at h
            exact h
          obtain ⟨fn, tmps, assign, body, hy, hR2⟩ := hYW
          have hp0 : WD.cell? ⟨wr.heap.size, 0, none⟩ = some (.int .i64 k) := by rw [cell_of_row WD _ 0 _ _ _ hPW]; rfl
          have hp1' : WD.cell? ⟨wr.heap.size, 1, none⟩ = some (.bool true) := by rw [cell_of_row WD _ 1 _ _ _ hPW]; rfl
          have hp2' : WD.cell? ⟨wr.heap.size, 2, none⟩ = some (.string T) := by rw [cell_of_row WD _ 2 _ _ _ hPW]; rfl
          
          gi_wp2
          refine hR2.mono ?_
          rintro e W3 (⟨rfl, hJ3, hk3⟩ | ⟨rfl, hJx3⟩)
          · have hb3 := hk3.2 _ _ _ hPW
            have hp1 : W3.cell? ⟨wr.heap.size, 1, none⟩ = some (.bool true) := by rw [cell_of_row W3 _ 1 _ _ _ hb3]; rfl
            have hp2 : W3.cell? ⟨wr.heap.size, 2, none⟩ = some (.string T) := by rw [cell_of_row W3 _ 2 _ _ _ hb3]; rfl
            have hc3 := hk3.1.trans hcW
            clear hk3 hb3 hPW hcW hy hR2
            gi_wp2
            go_roundw
            case rel => exact ⟨k + m + 2, done ++ [(k, true, ((nums s).drop (k + 1)).take m)], by go_num, by omega, by simp; omega, HD, hJ3, hc3⟩
            case measure => simp [intOf]; omega
          · gi_wp2
            refine bodyPost_ret (results_none rfl _ _ _) rfl ?_
            exact ⟨⟨_, rfl⟩, .inr ⟨_, ⟨_, HD.out.symm⟩, hJx3⟩⟩
      · have hrn := prN_run k ((nums s).drop (k + 1)) h38
        rw [← hdr] at hrn
        obtain ⟨T, hT⟩ : ∃ T, strOfNums (runN ((nums s).drop k)) = T := ⟨_, rfl⟩
        have hrl := runN_len ((nums s).drop k)
        rw [List.length_drop, nums_length] at hrl
        have hrp : 1 ≤ (runN ((nums s).drop k)).length := by rw [hdr, runN_pos _ h38]; simp
        have hTs : T.size = (runN ((nums s).drop k)).length := by
          rw [← hT, ← nums_length, nums_strOfNums]
          intro x hx
          exact nums_isBs s x (List.mem_of_mem_drop ((List.takeWhile_sublist _).subset hx))
        obtain ⟨q, hqq⟩ : ∃ q, (runN ((nums s).drop k)).length = q := ⟨_, rfl⟩
        rw [hqq] at hrl hrp hTs
        have HT := Lib.hid hT
        have HD : Hid (prN 0 (nums s) = (done ++ [(k, false, runN ((nums s).drop k))]) ++ prN (k + q) ((nums s).drop (k + q))) := Lib.hid (by
          rw [HQ.out, hrn, hqq, List.drop_drop]
          simp [List.append_assoc])
        by_cases hmem : 38 ∈ nums R
        · rw [if_pos hmem, hnR, hqq] at hIB
          have hRT : R.extract 0 q = T := by
            rw [ext_str, hnR, ← hT, List.drop_zero, Nat.sub_zero, ← hqq, runN_take]
          have HIB := Lib.hid hIB
          have hq1 : (q : Int) ≤ (R.size : Int) := by omega
          have hq0 : (0 : Int) < (q : Int) := by omega
          have hJs := hJ
          clear hIB hmem hrn hT hdr hc0 hnR hqq
          have hbW := (Below.refl wr.heap.size wr).alloc (Nat.le_refl _) (.cells #[.int .i64 k, .bool false, .string T] 51)
          have hJW := hab _ _ _ none hJs (grown_of_below hbW none) (fun r e => by cases e)
          have hPW : (wr.alloc (.cells #[.int .i64 k, .bool false, .string T] 51)).heap[wr.heap.size]? = some (.cells #[.int .i64 k, .bool false, .string T] 51 (0, 0)) := heap_alloc_new wr _
          have hcW := (hbW.cell (p := ⟨Bs, 0, none⟩) hBr).trans hc
          have hYW : YieldAt Fence.wide (n - 1) Try.prog l #[.agg #[.int .i64 (k : Nat), .bool false, .string T]] (wr.alloc (.cells #[.int .i64 k, .bool false, .string T] 51)) fun e W' =>
              (e = .returned (.bool true) ∧ J (done ++ [(k, false, runN ((nums s).drop k))]) W' ∧ KeepsPc Bs (wr.alloc (.cells #[.int .i64 k, .bool false, .string T] 51)) W') ∨ (e = .returned (.bool false) ∧ Jx (done ++ [(k, false, runN ((nums s).drop k))]) W') := by
            have h := hY done (k, false, runN ((nums s).drop k)) (wr.alloc (.cells #[.int .i64 k, .bool false, .string T] 51)) hJW ⟨_, HD.out.symm⟩ (by omega)
            unfold pcV at h
            dsimp only at h
            rw [HT.out] at h
            exact h
          obtain ⟨fn, tmps, assign, body, hy, hR2⟩ := hYW
          gi_wp2_with (refine ⟨trivial, ?_⟩; gi_at_call 35; refine (callsIn_wide.2 (HIB.out _)).mono ?_; rintro e w' ⟨rfl, rfl⟩)
          refine hR2.mono ?_
          rintro e W3 (⟨rfl, hJ3, hk3⟩ | ⟨rfl, hJx3⟩)
          · have hb3 := hk3.2 _ _ _ hPW
            have hp1 : W3.cell? ⟨wr.heap.size, 1, none⟩ = some (.bool false) := by rw [cell_of_row W3 _ 1 _ _ _ hb3]; rfl
            have hp2 : W3.cell? ⟨wr.heap.size, 2, none⟩ = some (.string T) := by rw [cell_of_row W3 _ 2 _ _ _ hb3]; rfl
            have hc3 := hk3.1.trans hcW
            clear hk3 hb3 hPW hcW hy hR2
            gi_wp2
            go_roundw
            case rel => exact ⟨k + q, done ++ [(k, false, runN ((nums s).drop k))], by go_num, by omega, by simp; omega, HD, hJ3, hc3⟩
            case measure => simp [intOf]; omega
          · gi_wp2
            refine bodyPost_ret (results_none rfl _ _ _) rfl ?_
            exact ⟨⟨_, rfl⟩, .inr ⟨_, ⟨_, HD.out.symm⟩, hJx3⟩⟩
        · rw [if_neg hmem] at hIB
          have hRT : R = T := by rw [← hT, runN_all (by rw [← hnR]; exact hmem), ← hnR, strOfNums_nums]
          rw [hRT] at hIB
          have HIB := Lib.hid hIB
          have hJs := hJ
          clear hIB hmem hrn hT hdr hc0 hnR hqq
          have hbW := (Below.refl wr.heap.size wr).alloc (Nat.le_refl _) (.cells #[.int .i64 k, .bool false, .string T] 51)
          have hJW := hab _ _ _ none hJs (grown_of_below hbW none) (fun r e => by cases e)
          have hPW : (wr.alloc (.cells #[.int .i64 k, .bool false, .string T] 51)).heap[wr.heap.size]? = some (.cells #[.int .i64 k, .bool false, .string T] 51 (0, 0)) := heap_alloc_new wr _
          have hcW := (hbW.cell (p := ⟨Bs, 0, none⟩) hBr).trans hc
          have hYW : YieldAt Fence.wide (n - 1) Try.prog l #[.agg #[.int .i64 (k : Nat), .bool false, .string T]] (wr.alloc (.cells #[.int .i64 k, .bool false, .string T] 51)) fun e W' =>
              (e = .returned (.bool true) ∧ J (done ++ [(k, false, runN ((nums s).drop k))]) W' ∧ KeepsPc Bs (wr.alloc (.cells #[.int .i64 k, .bool false, .string T] 51)) W') ∨ (e = .returned (.bool false) ∧ Jx (done ++ [(k, false, runN ((nums s).drop k))]) W') := by
            have h := hY done (k, false, runN ((nums s).drop k)) (wr.alloc (.cells #[.int .i64 k, .bool false, .string T] 51)) hJW ⟨_, HD.out.symm⟩ (by omega)
            unfold pcV at h
            dsimp only at h
            rw [HT.out] at h
            exact h
          obtain ⟨fn, tmps, assign, body, hy, hR2⟩ := hYW
          gi_wp2_with (refine ⟨trivial, ?_⟩; gi_at_call 35; refine (callsIn_wide.2 (HIB.out _)).mono ?_; rintro e w' ⟨rfl, rfl⟩)
          refine hR2.mono ?_
          rintro e W3 (⟨rfl, hJ3, hk3⟩ | ⟨rfl, hJx3⟩)
          · have hb3 := hk3.2 _ _ _ hPW
            have hp1 : W3.cell? ⟨wr.heap.size, 1, none⟩ = some (.bool false) := by rw [cell_of_row W3 _ 1 _ _ _ hb3]; rfl
            have hp2 : W3.cell? ⟨wr.heap.size, 2, none⟩ = some (.string T) := by rw [cell_of_row W3 _ 2 _ _ _ hb3]; rfl
            have hc3 := hk3.1.trans hcW
            clear hk3 hb3 hPW hcW hy hR2
            gi_wp2
            go_roundw
            case rel => exact ⟨k + q, done ++ [(k, false, runN ((nums s).drop k))], by go_num, by omega, by simp; omega, HD, hJ3, hc3⟩
            case measure => simp [intOf]; omega
          · gi_wp2
            refine bodyPost_ret (results_none rfl _ _ _) rfl ?_
            exact ⟨⟨_, rfl⟩, .inr ⟨_, ⟨_, HD.out.symm⟩, hJx3⟩⟩
    · have HE := Lib.hid (show prN 0 (nums s) = done by rw [HQ.out, nums_drop_end s k (by omega), prN_nil, List.append_nil])
      gi_wp2
      go_end0
      exact ⟨⟨_, rfl⟩, .inl ⟨_, HE.out.symm, hJ⟩⟩
/-- a piece of the text s. -/
abbrev PcOf (s : ByteArray) : Type := { x : Nat × Bool × List Int // x ∈ prN 0 (nums s) }
theorem prefix_map_lift {α : Type} {p : α → Prop} : ∀ (l : List α), (∀ x ∈ l, p x) → ∃ l' : List { x // p x }, l'.map Subtype.val = l
  | [], _ => ⟨[], rfl⟩
  | x :: r, h => by
    obtain ⟨l', e⟩ := prefix_map_lift r fun y hy => h y (List.mem_cons_of_mem _ hy)
    exact ⟨⟨x, h x (List.mem_cons_self ..)⟩ :: l', by rw [List.map_cons, e]⟩
theorem refs_pieces_stops (n : Nat) (hn : 1 ≤ n) (Bs : Nat) (s : ByteArray) (hs : s.size ≤ 1099511627776) (w : World) (hBs : Bs < w.heap.size) (hc : w.cell? ⟨Bs, 0, none⟩ = some (.string s)) :
    SeqStopsK Fence.wide n Try.prog 43 #[.pointer (some ⟨Bs, 0, none⟩)] (fun x : PcOf s => #[pcV x.1]) (KeepsPc Bs) (fun ys => ys.map Subtype.val = prN 0 (nums s)) (fun pre => pre.map Subtype.val <+: prN 0 (nums s)) s.size w := fun l J Jx W hW hJ hJx hY h0 => by
  have h := refs_pieces1_in n hn l Bs s hs (fun ys W => ∃ l' : List (PcOf s), l'.map Subtype.val = ys ∧ J l' W) (fun ys W => ∃ l' : List (PcOf s), l'.map Subtype.val = ys ∧ Jx l' W) W.heap.size
    (fun ys A B row ⟨l', e, hj⟩ hg hr => ⟨l', e, hJ l' A B row hj hg hr⟩)
    (by
      rintro pre x W1 ⟨l', rfl, hj⟩ hp hl
      have hx : x ∈ prN 0 (nums s) := hp.subset (by simp)
      refine (hY l' ⟨x, hx⟩ W1 hj (by rw [List.length_map] at hl; exact hl)).mono ?_
      rintro e W' (⟨rfl, h1, h2⟩ | ⟨rfl, h1⟩)
      · exact .inl ⟨rfl, ⟨_, by rw [List.map_append]; rfl, h1⟩, h2⟩
      · exact .inr ⟨rfl, ⟨_, by rw [List.map_append]; rfl, h1⟩⟩)
    W (Nat.lt_of_lt_of_le hBs hW.size) ((hW.cell (p := ⟨Bs, 0, none⟩) hBs).trans hc) ⟨[], rfl, h0⟩
  refine h.mono ?_
  rintro e W' ⟨hv, ⟨ys, rfl, l', e1, hj⟩ | ⟨pre, hp, l', rfl, hj⟩⟩
  · exact ⟨hv, .inl ⟨l', e1, hj⟩⟩
  · exact ⟨hv, .inr ⟨l', hp, hj⟩⟩
end Go.Proofs.Ytkdkoondchbekaa
