/-
  The walk of refs.Loose.
-/
import Derived.Test.YtkdkoondchbekaaRfG
import Derived.Laws.EntriesVeiled
import Derived.Deep.Upon
import Derived.Stop.RegionWithIn
namespace Go.Proofs.Ytkdkoondchbekaa
open Go.RowKit Go.Shelf
attribute [local go_sem] Oper.semAt_some
/-- but for the list's box and what lies above, all is as it was; the loops' records, too. -/
structure KeptR (W W' : World) (b base : Nat) : Prop where
  others : KeepsOthers W W'
  low : ∀ k, k < base → k ≠ b → W'.heap[k]? = W.heap[k]?
  bel : Below b W W'
  typ : ∀ (k : Nat) (cs : Array Value) (T : TypeId) (m : Nat × Nat), T ≠ 41 → k ≠ b → W.heap[k]? = some (.cells cs T m) → W'.heap[k]? = some (.cells cs T m)
theorem KeptR.trans {A B C : World} {b base : Nat} (h : KeptR A B b base) (k : KeptR B C b base) : KeptR A C b base :=
  ⟨h.others.trans k.others, fun i h1 h2 => (k.low i h1 h2).trans (h.low i h1 h2), h.bel.trans k.bel, fun i cs T m h1 h2 h3 => k.typ i cs T m h1 h2 (h.typ i cs T m h1 h2 h3)⟩
theorem KeptR.of_below {A B : World} {b base : Nat} (h : Below A.heap.size A B) (hb : base ≤ A.heap.size) (hlt : b < base) : KeptR A B b base :=
  ⟨keepsOthers_of_below h, fun k hk _ => h.block k (by omega), h.mono (by omega), fun k _ _ _ _ _ hk => (h.block k (Array.getElem?_eq_some_iff.1 hk).1).trans hk⟩
theorem KeptR.boxed {A B : World} {b base : Nat} (h : KeptR A B b base) {k : Nat} {t : TypeId} {v : Value} (hb : Boxed A k t v) (h1 : k < base) (h2 : k ≠ b) : Boxed B k t v := (h.low k h1 h2).trans hb
theorem keptR_grown {W W' : World} {b base : Nat} {v : Value} {n : Nat} {xs : List Value} (hrow : W.ownsRow base 41 2 v n xs) (hg : W.grownBy W' v.ownBlock) (hb : base ≤ W.heap.size) (hlt : b < base) : KeptR W W' b base :=
  ⟨keepsOthers_of_row hrow hg, fun k hk _ => hg.block k (by omega) (fun e => by have := (hrow.lt k e.symm).1; omega), (ownBelow hrow hg (Nat.le_refl _) hb).mono (by omega), fun k _ _ _ h1 _ hk => (hg.block k (Array.getElem?_eq_some_iff.1 hk).1 (fun e => by
    rcases hrow.2 with ⟨rfl, _⟩ | ⟨g, cap, cur, rfl, _, hgb, _⟩
    · cases e
    · injection e with e
      subst e
      rw [hk] at hgb
      injection hgb with hgb
      injection hgb with _ e2 _
      exact h1 e2)).trans hk⟩
theorem keptR_set {W : World} {b base : Nat} (v : Value) : KeptR W (W.setCell ⟨b, 0, none⟩ v) b base :=
  ⟨KeepsOthers.setCell _ _ _, fun k _ hne => Below.heap_setCell W ⟨b, 0, none⟩ v k (fun e => hne e), (Below.refl b W).setCell (p := ⟨b, 0, none⟩) (Nat.le_refl _) v, fun k _ _ _ _ h2 hk => (Below.heap_setCell W ⟨b, 0, none⟩ v k (fun e => h2 e)).trans hk⟩
/-- the list of reasons in its box. -/
def RsZ (W : World) (L base : Nat) (xs : List (Int × Nat)) : Prop := ∃ v, Boxed W L 26 v ∧ W.ownsRow base 41 2 v xs.length (reaC xs) ∧ (xs = [] → v = .slice none 0 0)
theorem rs_own {β : Type} (L base : Nat) (f : β → List (Int × Nat)) : Own (fun s W => RsZ W L base (f s)) :=
  holdsRow_own base L 26 41 2 (fun s => (f s).length) (fun s => reaC (f s)) (fun s v => f s = [] → v = .slice none 0 0)
theorem row_typ {A B : World} {base : Nat} {e : TypeId} {size : Nat} {v : Value} {n : Nat} {xs : List Value} (h : A.ownsRow base e size v n xs)
    (ht : ∀ (k : Nat) (cs : Array Value) (m : Nat × Nat), base ≤ k → A.heap[k]? = some (.cells cs e m) → B.heap[k]? = some (.cells cs e m)) : B.ownsRow base e size v n xs :=
  ⟨h.1, h.2.elim .inl fun ⟨g, cap, cur, h0, h1, h2, h3⟩ => .inr ⟨g, cap, cur, h0, h1, ht g _ _ h1 h2, h3⟩⟩
theorem RsZ.kept {A B : World} {L base b : Nat} {xs : List (Int × Nat)} (h : RsZ A L base xs) (k : Kept A B b base) (h1 : L < base) (h2 : L ≠ b) (h3 : b < base) : RsZ B L base xs := by
  obtain ⟨v, hb, hr, hz⟩ := h
  exact ⟨v, k.boxed hb h1 h2, row_typ hr fun i cs m hi hk => k.typ i cs _ m (by decide) (by omega) hk, hz⟩
theorem RsZ.low {A B : World} {L base : Nat} {xs : List (Int × Nat)} (h : RsZ A L base xs) (hb : Below A.heap.size A B) : RsZ B L base xs := by
  obtain ⟨v, hx, hr, hz⟩ := h
  exact ⟨v, (hb.block _ hx.lt).trans hx, own_below hr hb (Nat.le_refl _), hz⟩
theorem BdZ.keptR {A B : World} {b base L : Nat} {xs : List Int} (h : BdZ A b base xs) (k : KeptR A B L base) (h1 : b < base) (h2 : b ≠ L) (h3 : L < base) : BdZ B b base xs := by
  obtain ⟨v, h, hz⟩ := h
  obtain ⟨p, hp, hk⟩ := h.blk
  exact ⟨v, ⟨⟨p, hp, (k.low b h1 h2).trans hk⟩, row_typ h.own fun i cs m hi hk => k.typ i cs _ m (by decide) (by omega) hk, h.lt⟩, hz⟩
set_option maxRecDepth 100000 in
theorem refs_Loose1 (L A base : Nat) (xs : List (Int × Nat)) (kd : Int) (x : Nat × Bool × List Int) (a0 : Nat) (u : World) (hL : L < base) (h : RsZ u L base xs) (hA : Boxed u A 3 (.int .i64 a0)) (hbase : base ≤ u.heap.size)
    (hn : xs.length < 1000000000) (ha : a0 < 1099511627776) (hx : x.1 < 1099511627776) :
    Calls Try.prog 31 #[.int .i8 kd, pcV x, .pointer (some ⟨L, 0, none⟩), .pointer (some ⟨A, 0, none⟩)] u fun e w' => e = .returned (.tuple #[]) ∧ RsZ w' L base (xs ++ [(kd, a0 + x.1)]) ∧ KeptR u w' L base := by
  obtain ⟨v, hb, hrow, _⟩ := h
  obtain ⟨k, rf, tx⟩ := x
  dsimp only at hx
  unfold pcV
  dsimp only
  obtain ⟨T, hT⟩ : ∃ T, strOfNums tx = T := ⟨_, rfl⟩
  rw [hT]
  obtain ⟨w1, hw1⟩ : ∃ w1, u.alloc (.cells #[.int .i64 k, .bool rf, .string T] 51) = w1 := ⟨_, rfl⟩
  have hs1 : w1.heap.size = u.heap.size + 1 := by rw [← hw1, World.size_alloc]
  have hb1 : Below u.heap.size u w1 := by rw [← hw1]; exact (Below.refl _ u).alloc (Nat.le_refl _) _
  have hbx1 : Boxed w1 L _ _ := (hb1.block _ hb.lt).trans hb
  have hrow1 := own_below hrow hb1 (Nat.le_refl _)
  obtain ⟨v', w2, h1, h2, h3⟩ := app_rea w1 base v xs hrow1 (kd, a0 + k) hn (by omega)
  dsimp only at h1 h2 h3
  rw [Int.natCast_add] at h1 h3
  have hk1 : KeptR u w1 L base := KeptR.of_below hb1 hbase hL
  have hbl2 : Below w1.heap.size w1 (w1.alloc (.cells #[.int .i8 kd, .int .i64 ((a0 : Int) + (k : Int))] 41)) := (Below.refl _ w1).alloc (Nat.le_refl _) _
  have hk2 : KeptR w1 _ L base := KeptR.of_below hbl2 (by omega) hL
  have hrow2 := own_below hrow1 hbl2 (Nat.le_refl _)
  have hk3 := keptR_grown (b := L) hrow2 h3 (by simp; omega) hL
  have hbx2 : Boxed (w1.alloc (.cells #[.int .i8 kd, .int .i64 ((a0 : Int) + (k : Int))] 41)) L _ _ := (hbl2.block _ hbx1.lt).trans hbx1
  have hbx3 : Boxed w2 L _ _ := (h3.block L hbx2.lt (fun e => by have := (hrow2.lt L e.symm).1; omega)).trans hbx2
  have c0 := hb.cell
  have cA := hA.cell
  have hA1 : Boxed w1 A _ _ := (hb1.block _ hA.lt).trans hA
  have c1 := hbx1.cell
  have cA1 := hA1.cell
  have c3 := hbx3.cell
  have f3 := hbx3.frozen
  have hp0 : w1.cell? ⟨u.heap.size, 0, none⟩ = some (.int .i64 k) := by rw [cell_of_row w1 _ 0 _ _ _ (by rw [← hw1]; exact heap_alloc_new u _)]; rfl
  obtain ⟨va, vl, vc, rfl⟩ := own_slice hrow
  obtain ⟨va', vl', vc', rfl⟩ := own_slice h2
  have OUT : RsZ (w2.setCell ⟨L, 0, none⟩ (.slice va' vl' vc')) L base (xs ++ [(kd, a0 + k)]) ∧ KeptR u (w2.setCell ⟨L, 0, none⟩ (.slice va' vl' vc')) L base :=
    ⟨⟨_, hbx3.set _, ownsRow_setCell_below h2 hL _, fun e => by simp at e⟩, ((hk1.trans hk2).trans hk3).trans (keptR_set _)⟩
  have HO := Lib.hid OUT
  rw [hs1] at h1
  have HAp := Lib.hid h1
  have HW := Lib.hid hw1
  clear OUT h1 h2 h3 hk1 hk2 hk3 hrow hrow1 hrow2 hbx1 hbx2 hbx3 hA1 hA hb hb1 hbl2 hT hw1
  rw [← HW.out] at hp0 c1 cA1
  have HAp := Lib.hid (by have h := HAp.out; rw [← HW.out] at h; exact h)
  clear hs1 HW
  go_enter Try.func31, Try.ntmps31
  go_wp2_with (at_builtin; refine wpList_append_run rfl _ _ _ _ rfl _ _ rfl rfl _ _ HAp.out ?_)
  go_end0
  exact ⟨rfl, HO.out⟩
theorem nums_appR (x y : ByteArray) : nums (x ++ y) = nums x ++ nums y := by simp [nums, ByteArray.data_append]
theorem own_slice_le {w : World} {base : Nat} {e : TypeId} {size : Nat} {a : Option Addr} {l c n : Nat} {xs : List Value} (h : w.ownsRow base e size (.slice a l c) n xs) : l ≤ c := by
  rcases h.2 with ⟨h1, _⟩ | ⟨g, cap, cur, h1, _, _, h2, _⟩
  · cases h1; exact Nat.le_refl _
  · cases h1; exact h2
theorem app_nothing (w : World) (a : Option Addr) (l c : Nat) (h : l ≤ c) : (Builtin.append_ #[26, 26] 26 #[.slice a l c, .slice none 0 0]).run Try.prog w = .ok (.slice a l c) w := by
  obtain ⟨i0, hi, _, _, _⟩ := info_parts infoRea
  exact run_append_nothing w _ _ _ _ i0 Try.underlying26 hi a l c h _ ⟨.inl ⟨_, Try.underlying26⟩, fun _ => rfl, rfl, rfl, by simp, by simp⟩
/-- Kept and KeptR together. -/
structure KeptB (W W' : World) (b L base : Nat) : Prop where
  others : KeepsOthers W W'
  low : ∀ k, k < base → k ≠ b → k ≠ L → W'.heap[k]? = W.heap[k]?
  bel : Below b W W'
  typ : ∀ (k : Nat) (cs : Array Value) (T : TypeId) (m : Nat × Nat), T ≠ 5 → T ≠ 41 → k ≠ b → k ≠ L → W.heap[k]? = some (.cells cs T m) → W'.heap[k]? = some (.cells cs T m)
theorem KeptB.refl (A : World) (b L base : Nat) : KeptB A A b L base := ⟨KeepsOthers.refl _, fun _ _ _ _ => rfl, Below.refl _ _, fun _ _ _ _ _ _ _ _ h => h⟩
theorem KeptB.trans {A B C : World} {b L base : Nat} (h : KeptB A B b L base) (k : KeptB B C b L base) : KeptB A C b L base :=
  ⟨h.others.trans k.others, fun i h1 h2 h3 => (k.low i h1 h2 h3).trans (h.low i h1 h2 h3), h.bel.trans k.bel, fun i cs T m h1 h2 h3 h4 h5 => k.typ i cs T m h1 h2 h3 h4 (h.typ i cs T m h1 h2 h3 h4 h5)⟩
theorem KeptB.of_below {A B : World} {b L base : Nat} (h : Below A.heap.size A B) (hb : base ≤ A.heap.size) (hlt : b < base) (_ : L < base) : KeptB A B b L base :=
  ⟨keepsOthers_of_below h, fun k hk _ _ => h.block k (by omega), h.mono (by omega), fun k _ _ _ _ _ _ _ hk => (h.block k (Array.getElem?_eq_some_iff.1 hk).1).trans hk⟩
theorem KeptB.ofW {A B : World} {b L base : Nat} (h : Kept A B b base) (_ : b < L) : KeptB A B b L base :=
  ⟨h.others, fun k h1 h2 _ => h.low k h1 h2, h.bel, fun k cs T m h1 _ h3 _ h5 => h.typ k cs T m h1 h3 h5⟩
theorem KeptB.ofR {A B : World} {b L base : Nat} (h : KeptR A B L base) (hb : b < L) : KeptB A B b L base :=
  ⟨h.others, fun k h1 _ h3 => h.low k h1 h3, h.bel.mono (by omega), fun k cs T m _ h2 _ h4 h5 => h.typ k cs T m h2 h4 h5⟩
theorem KeptB.boxed {A B : World} {b L base : Nat} (h : KeptB A B b L base) {k : Nat} {t : TypeId} {v : Value} (hb : Boxed A k t v) (h1 : k < base) (h2 : k ≠ b) (h3 : k ≠ L) : Boxed B k t v := (h.low k h1 h2 h3).trans hb
/-- what is written, what is noted, after some pieces. -/
def LooI (w : World) (s : ByteArray) (a0 : Nat) : List (PcOf s) → World → Prop := fun pre W =>
  (((((Boxed W w.heap.size 3 (.int .i64 a0) ∧ Boxed W (w.heap.size + 1 + 1 + 1) 60 (.func (.func 31) #[] #[.pointer (some ⟨w.heap.size + 1 + 1, 0, none⟩), .pointer (some ⟨w.heap.size, 0, none⟩)])) ∧ Boxed W (w.heap.size + 1 + 1 + 1 + 1) 9 (.string s)) ∧
    BdZ W (w.heap.size + 1) (w.heap.size + 5) ((rawL pre).flatMap (outL htmN))) ∧ RsZ W (w.heap.size + 1 + 1) (w.heap.size + 5) ((rawL pre).flatMap (resL htmN a0))) ∧ Below w.heap.size w W)
theorem looI_own (w : World) (s : ByteArray) (a0 B : Nat) (hB : w.heap.size ≤ B) : OwnFrom B (LooI w s a0) :=
  OwnFrom.and (OwnFrom.and (OwnFrom.and (OwnFrom.and (OwnFrom.and (Own.from (boxed_own _ _ (fun _ => .int .i64 a0)) _) (Own.from (boxed_own _ _ (fun _ => .func (.func 31) #[] #[.pointer (some ⟨w.heap.size + 1 + 1, 0, none⟩), .pointer (some ⟨w.heap.size, 0, none⟩)])) _)) (Own.from (boxed_own _ _ (fun _ => .string s)) _))
    (Own.from (bd_own _ _ (fun pre : List (PcOf s) => (rawL pre).flatMap (outL htmN))) _)) (Own.from (rs_own _ _ (fun pre : List (PcOf s) => (rawL pre).flatMap (resL htmN a0))) _)) (ownFrom_below (Nat.le_refl _) hB)
set_option maxRecDepth 100000 in
set_option maxHeartbeats 4000000 in
theorem refs_Loose0 (s : ByteArray) (a0 : Nat) (hs : s.size ≤ 500000) (ha : a0 ≤ 4194304) (m : Int) (w : World) (hm : w.cell? ⟨0, 0, none⟩ = some (.int .i64 m))
    (hrec : ∀ (p : Nat × Bool × List Int), p ∈ prN 0 (nums s) → p.2.1 = true → ∀ (T : ByteArray) (a : Nat) (u : World), nums T = p.2.2 ++ [59] → a ≤ a0 + 500000 → u.cell? ⟨0, 0, none⟩ = some (.int .i64 m) →
      Calls Try.prog 12 #[.string T, .int .i64 a] u fun e w' => e = .returned (.tuple #[.string T, .slice none 0 0]) ∧ Below u.heap.size u w') :
    Calls Try.prog 12 #[.string s, .int .i64 a0] w fun e w' => ∃ v, e = .returned (.tuple #[.string (strOfNums ((prN 0 (nums s)).flatMap (outL htmN))), v]) ∧
      w'.ownsRow w.heap.size 41 2 v ((prN 0 (nums s)).flatMap (resL htmN a0)).length (reaC ((prN 0 (nums s)).flatMap (resL htmN a0))) ∧ ((prN 0 (nums s)).flatMap (resL htmN a0) = [] → v = .slice none 0 0) ∧ Below w.heap.size w w' := by
  refine (callsIn_wide (n := 5)).1 ?_
  refine callsIn_of_wp_marks Try.func12 rfl trivial ?_ rfl
  simp only [Try.ntmps12, List.size_toArray, List.length_cons, List.length_nil, Nat.reduceAdd, Nat.reduceSub, Array.replicate_succ, Array.replicate_zero, List.push_toArray, List.append_toArray, List.nil_append, List.cons_append]
  have hb4 : Boxed ((((w.alloc (.cells #[.int .i64 a0] 3)).alloc (.cells #[.pointer none, .slice none 0 0] 46)).alloc (.cells #[.slice none 0 0] 26)).alloc (.cells #[.nilFunc] 60)) (w.heap.size + 1 + 1 + 1) 60 .nilFunc := by
    have h := Boxed.new (((w.alloc (.cells #[.int .i64 a0] 3)).alloc (.cells #[.pointer none, .slice none 0 0] 46)).alloc (.cells #[.slice none 0 0] 26)) 60 .nilFunc
    rw [World.size_alloc, World.size_alloc, World.size_alloc] at h
    exact h
  have c4 := hb4.cell
  have f4 := hb4.frozen
  clear hb4
  gi_wp2_with (refine ⟨trivial, ?_⟩; gi_at_call 24; refine (refs_pieces_in Fence.wide _ trivial rfl _ _).mono ?_; rintro e w' ⟨rfl, rfl⟩)
  clear c4 f4
  have bA := Boxed.new w 3 (.int .i64 a0)
  obtain ⟨w1, hw1⟩ : ∃ x, w.alloc (.cells #[.int .i64 a0] 3) = x := ⟨_, rfl⟩
  have s1 : w1.heap.size = w.heap.size + 1 := by rw [← hw1, World.size_alloc]
  have e1 : Below w.heap.size w w1 := by rw [← hw1]; exact (Below.refl _ w).alloc (Nat.le_refl _) _
  rw [hw1] at bA
  rw [hw1]
  have bB : (w1.alloc (.cells #[.pointer none, .slice none 0 0] 46)).heap[w1.heap.size]? = some (.cells #[.pointer none, .slice none 0 0] 46 (0, 0)) := heap_alloc_new w1 _
  have bA := bA.alloc (.cells #[.pointer none, .slice none 0 0] 46)
  obtain ⟨w2, hw2⟩ : ∃ x, w1.alloc (.cells #[.pointer none, .slice none 0 0] 46) = x := ⟨_, rfl⟩
  have s2 : w2.heap.size = w.heap.size + 1 + 1 := by rw [← hw2, World.size_alloc, s1]
  have e2 : Below w.heap.size w w2 := by rw [← hw2]; exact e1.alloc (by omega) _
  rw [hw2] at bA bB
  rw [s1] at bB
  rw [hw2]
  have bC := Boxed.new w2 26 (.slice none 0 0)
  have bA := bA.alloc (.cells #[.slice none 0 0] 26)
  have bB : (w2.alloc (.cells #[.slice none 0 0] 26)).heap[w.heap.size + 1]? = some (.cells #[.pointer none, .slice none 0 0] 46 (0, 0)) := by rw [Below.heap_alloc _ _ _ (by omega)]; exact bB
  obtain ⟨w3, hw3⟩ : ∃ x, w2.alloc (.cells #[.slice none 0 0] 26) = x := ⟨_, rfl⟩
  have s3 : w3.heap.size = w.heap.size + 1 + 1 + 1 := by rw [← hw3, World.size_alloc, s2]
  have e3 : Below w.heap.size w w3 := by rw [← hw3]; exact e2.alloc (by omega) _
  rw [hw3] at bA bB bC
  rw [s2] at bC
  rw [hw3]
  have bD := Boxed.new w3 60 (.func (.func 31) #[] #[.pointer (some ⟨w.heap.size + 1 + 1, 0, none⟩), .pointer (some ⟨w.heap.size, 0, none⟩)])
  have bA := bA.alloc (.cells #[.func (.func 31) #[] #[.pointer (some ⟨w.heap.size + 1 + 1, 0, none⟩), .pointer (some ⟨w.heap.size, 0, none⟩)]] 60)
  have bB : (w3.alloc (.cells #[.func (.func 31) #[] #[.pointer (some ⟨w.heap.size + 1 + 1, 0, none⟩), .pointer (some ⟨w.heap.size, 0, none⟩)]] 60)).heap[w.heap.size + 1]? = some (.cells #[.pointer none, .slice none 0 0] 46 (0, 0)) := by rw [Below.heap_alloc _ _ _ (by omega)]; exact bB
  have bC := bC.alloc (.cells #[.func (.func 31) #[] #[.pointer (some ⟨w.heap.size + 1 + 1, 0, none⟩), .pointer (some ⟨w.heap.size, 0, none⟩)]] 60)
  obtain ⟨w4, hw4⟩ : ∃ x, w3.alloc (.cells #[.func (.func 31) #[] #[.pointer (some ⟨w.heap.size + 1 + 1, 0, none⟩), .pointer (some ⟨w.heap.size, 0, none⟩)]] 60) = x := ⟨_, rfl⟩
  have s4 : w4.heap.size = w.heap.size + 1 + 1 + 1 + 1 := by rw [← hw4, World.size_alloc, s3]
  have e4 : Below w.heap.size w w4 := by rw [← hw4]; exact e3.alloc (by omega) _
  rw [hw4] at bA bB bC bD
  rw [s3] at bD
  rw [hw4]
  have bE := Boxed.new w4 9 (.string s)
  have bA := bA.alloc (.cells #[.string s] 9)
  have bB : (w4.alloc (.cells #[.string s] 9)).heap[w.heap.size + 1]? = some (.cells #[.pointer none, .slice none 0 0] 46 (0, 0)) := by rw [Below.heap_alloc _ _ _ (by omega)]; exact bB
  have bC := bC.alloc (.cells #[.string s] 9)
  have bD := bD.alloc (.cells #[.string s] 9)
  obtain ⟨w5, hw5⟩ : ∃ x, w4.alloc (.cells #[.string s] 9) = x := ⟨_, rfl⟩
  have s5 : w5.heap.size = w.heap.size + 1 + 1 + 1 + 1 + 1 := by rw [← hw5, World.size_alloc, s4]
  have e5 : Below w.heap.size w w5 := by rw [← hw5]; exact e4.alloc (by omega) _
  rw [hw5] at bA bB bC bD bE
  rw [s4] at bE
  rw [hw5]
  clear hw1 hw2 hw3 hw4 hw5 s1 s2 s3 s4 e1 e2 e3 e4
  have hgw : 0 < w.heap.size := cellBlock_lt hm
  refine wpIn_rangeFunc_ownH rfl (by omega) (gf := 43) (lb := #[.pointer (some ⟨w.heap.size + 1 + 1 + 1 + 1, 0, none⟩)]) rfl trivial (enters_of Try.func43 (by kernel_rfl) rfl)
    (refs_pieces_stops _ (by omega) (w.heap.size + 1 + 1 + 1 + 1) s (by omega) _ (by omega) bE.cell) keepsPc_t (keepsPc_b (by omega)) (Below.refl _ _) (fun _ => rfl)
    (LooI w s a0)
    (fun _ _ _ => False)
    (looI_own w s a0 _ (by omega))
    (fun _ _ _ _ _ h => h.elim)
    ⟨⟨⟨⟨⟨bA, bD⟩, bE⟩, BdAt.new0 _ _ _ bB (by omega)⟩, ⟨_, bC, World.ownsRow_nil _ _ _ _, fun _ => rfl⟩⟩, e5⟩
    (fun x a' W => ∃ P, PcAt w5.heap.size x.1 P W ∧ a' = { tmps := #[.string s, .int .i64 a0, undef, .pointer (some ⟨w.heap.size, 0, none⟩), .string ⟨#[]⟩, .slice none 0 0, .pointer (some ⟨w.heap.size + 1, 0, none⟩), .pointer (some ⟨w.heap.size + 1 + 1, 0, none⟩), .pointer (some ⟨w.heap.size + 1 + 1 + 1, 0, none⟩), .pointer (some ⟨P, 0, none⟩), undef, undef, undef, undef, undef, undef, undef, undef, undef, undef, undef, (.func (.func 31) #[] #[.pointer (some ⟨w.heap.size + 1 + 1, 0, none⟩), .pointer (some ⟨w.heap.size, 0, none⟩)]), .string s, .func (.func 43) #[] #[.pointer (some ⟨w.heap.size + 1 + 1 + 1 + 1, 0, none⟩)], pcV x.1, undef, undef, undef, undef, undef, undef, undef, undef, undef, undef, undef, undef, undef, undef, undef, undef, undef, undef, undef, undef, undef, undef, undef, undef, undef, undef, undef, undef, undef, undef, undef, undef, undef, undef, undef, undef, undef, undef, undef, undef, undef, undef, undef, undef, undef, undef, undef, undef, undef, undef, undef, undef, undef, undef, undef, undef, undef, undef, undef, undef, undef, undef, undef, undef, undef, undef, undef, undef, undef, undef, undef, undef, undef, undef, undef, undef, undef, undef, undef, undef, undef, undef, undef, undef, undef, undef, undef, undef, undef, undef], defers := [] })
    (fun x a' => pcAt_own _ _ x.1 _) ?assign ?body ?done ?stop
  case stop =>
    rintro D c pre W hD ht hf hK
    exact hf.elim
  case assign =>
    rintro l pre ⟨⟨k, rf, tx⟩, hx⟩ W K hI hK
    dsimp only [pcV]
    gi_wp2
    refine hK _ _ ((KeepsOthers.alloc _ _).from _) (keepsPc_below ?_ ((Below.refl _ W).alloc (Nat.le_refl _) _)) ?_ ⟨_, ⟨heap_alloc_new W _, ?_⟩, rfl⟩
    · exact hI.1.1.1.2.lt
    · exact (looI_own w s a0 w.heap.size (Nat.le_refl _)).alloc _ hI
    · have := hI.1.1.1.2.lt; omega
  case body =>
    rintro l pre x a' W hl hrec' ⟨⟨⟨⟨⟨hA, hF⟩, hsb⟩, hBd⟩, hRs⟩, hB⟩ ⟨P, ⟨hPW, hPl⟩, rfl⟩ hlt
    clear hrec' hl
    have hRC := hrec x.1 x.2
    clear hrec
    obtain ⟨hbs, hkk, htl⟩ := pc_facts x
    have hol := outL_len htmN pre
    have hrl := resL_len htmN a0 pre
    have hmul : pre.length * (4 + s.size) ≤ 500000 * 500004 := Nat.mul_le_mul (by omega) (by omega)
    have hsn := rawL_snoc pre x
    have hFIN : ∀ (Wf : World), KeptB W Wf (w.heap.size + 1) (w.heap.size + 1 + 1) (w.heap.size + 5) → BdZ Wf (w.heap.size + 1) (w.heap.size + 5) ((rawL pre).flatMap (outL htmN) ++ outL htmN x.1) → RsZ Wf (w.heap.size + 1 + 1) (w.heap.size + 5) ((rawL pre).flatMap (resL htmN a0) ++ resL htmN a0 x.1) →
        KeepsFrom w5.heap.size W Wf ∧ KeepsPc (w.heap.size + 1 + 1 + 1 + 1) W Wf ∧ LooI w s a0 (pre ++ [x]) Wf := by
      intro Wf hk h1 h2
      refine ⟨hk.others.from _, ⟨World.cell?_of_block (hk.low (w.heap.size + 1 + 1 + 1 + 1) (by omega) (by omega) (by omega)), fun i cs m hi => hk.typ i cs _ m (by decide) (by decide) (fun e => by subst e; exact bd_not_pc hBd _ _ hi) (fun e => by subst e; obtain ⟨v, hv, _⟩ := hRs; rw [show W.heap[_]? = _ from hv] at hi; cases hi) hi⟩, ⟨⟨⟨⟨hk.boxed hA (by omega) (by omega) (by omega), hk.boxed hF (by omega) (by omega) (by omega)⟩, hk.boxed hsb (by omega) (by omega) (by omega)⟩, ?_⟩, ?_⟩, hB.trans (hk.bel.mono (by omega))⟩
      · rw [hsn, List.flatMap_append, List.flatMap_cons, List.flatMap_nil, List.append_nil]; exact h1
      · rw [hsn, List.flatMap_append, List.flatMap_cons, List.flatMap_nil, List.append_nil]; exact h2
    obtain ⟨⟨k, rf, tx⟩, hx⟩ := x
    dsimp only at hbs hkk htl hPW hFIN hRC
    clear hsn
    obtain ⟨xs, hxs⟩ : ∃ xs, (rawL pre).flatMap (outL htmN) = xs := ⟨_, rfl⟩
    obtain ⟨rs, hrs⟩ : ∃ xs, (rawL pre).flatMap (resL htmN a0) = xs := ⟨_, rfl⟩
    rw [hxs] at hBd hol hFIN
    rw [hrs] at hRs hrl hFIN
    have hxl : xs.length ≤ 500000 * 500004 := by omega
    have hrsl : rs.length ≤ 500000 := by omega
    obtain ⟨T, hT⟩ : ∃ T, strOfNums tx = T := ⟨_, rfl⟩
    have hTs : T.size = tx.length := by rw [← hT, strOfNums_size]
    have hnT : nums T = tx := by rw [← hT, nums_strOfNums tx hbs]
    have hTl : T.size ≤ 500000 := by omega
    have hPlt : P < W.heap.size := (Array.getElem?_eq_some_iff.1 hPW).1
    have hsz := hsb.lt
    have hWs : w.heap.size + 5 ≤ W.heap.size := by omega
    have hP5 : w.heap.size + 5 ≤ P := by omega
    have hK : KeptB W W (w.heap.size + 1) (w.heap.size + 1 + 1) (w.heap.size + 5) := KeptB.refl _ _ _ _
    have hpV : pcV (k, rf, tx) = .agg #[.int .i64 (k : Nat), .bool rf, .string T] := by unfold pcV; rw [hT]
    rw [hT] at hPW
    obtain ⟨n1, n2, n3, hnu⟩ : ∃ a b c, numN tx = (a, b, c) := ⟨_, _, _, rfl⟩
    obtain ⟨h1, h2, hht⟩ : ∃ a b, htmN tx = (a, b) := ⟨_, _, rfl⟩
    obtain ⟨r, o, hso⟩ : ∃ r o, scaN tx = (r, o) := ⟨_, _, rfl⟩
    have hSC : ∀ u, Calls Try.prog 26 #[.string T] u fun e w' => e = .returned (.tuple #[.int .i64 r, .bool o]) ∧ Below u.heap.size u w' := by
      intro u
      have h := refs_scalar T u (by omega)
      rw [hnT, hso] at h
      exact h
    have hNU : ∀ u, Calls Try.prog 21 #[.string T] u fun e w' => e = .returned (.tuple #[.int .i64 n1, .bool n2, .bool n3]) ∧ Below u.heap.size u w' := by
      intro u
      have h := refs_Number T u (by omega)
      rw [hnT, hnu] at h
      exact h
    have hHT : ∀ u : World, u.cell? ⟨0, 0, none⟩ = some (.int .i64 m) → Calls Try.prog 19 #[.string T] u fun e w' => e = .returned (.tuple #[.int .i64 h1, .bool h2]) ∧ Below u.heap.size u w' := by
      intro u hmu
      have h := refs_Html T m u (by omega) hmu
      rw [hnT, hht] at h
      exact h
    have HSC := Lib.hid hSC
    have HNU := Lib.hid hNU
    have HHT := Lib.hid hHT
    have HRC := Lib.hid hRC
    have HFIN := Lib.hid hFIN
    have HBD := Lib.hid (fun (K : Int) (u : World) (hr : RsZ u (w.heap.size + 1 + 1) (w.heap.size + 5) rs) (hu : w.heap.size + 5 ≤ u.heap.size) (ha' : Boxed u w.heap.size 3 (.int .i64 a0)) =>
      refs_Loose1 (w.heap.size + 1 + 1) w.heap.size (w.heap.size + 5) rs K (k, rf, tx) a0 u (by omega) hr ha' hu (by omega) (by omega) (by simp; omega))
    have HWR := Lib.hid (fun (S : ByteArray) (hS : S.size ≤ 600000) (u : World) (hu : w.heap.size + 5 ≤ u.heap.size) (hv : BdZ u (w.heap.size + 1) (w.heap.size + 5) xs) => bd_writeK (w.heap.size + 1) (w.heap.size + 5) xs S u hv (by omega) hu)
    have hMX : ∀ u, KeptB W u (w.heap.size + 1) (w.heap.size + 1 + 1) (w.heap.size + 5) → u.cell? ⟨0, 0, none⟩ = some (.int .i64 m) := fun u hk => ((hB.trans (hk.bel.mono (Nat.le_succ _))).cell (p := ⟨0, 0, none⟩) hgw).trans hm
    have HMX := Lib.hid hMX
    have hPC : ∀ u, KeptB W u (w.heap.size + 1) (w.heap.size + 1 + 1) (w.heap.size + 5) → u.cell? ⟨P, 0, none⟩ = some (.int .i64 k) ∧ u.cell? ⟨P, 1, none⟩ = some (.bool rf) ∧ u.cell? ⟨P, 2, none⟩ = some (.string T) ∧ u.cell? ⟨w.heap.size, 0, none⟩ = some (.int .i64 a0) ∧ u.cell? ⟨w.heap.size + 1 + 1 + 1, 0, none⟩ = some (.func (.func 31) #[] #[.pointer (some ⟨w.heap.size + 1 + 1, 0, none⟩), .pointer (some ⟨w.heap.size, 0, none⟩)]) := by
      intro u hk
      have h := hk.typ P _ _ _ (by decide) (by decide) (by omega) (by omega) hPW
      exact ⟨by rw [cell_of_row u _ 0 _ _ _ h]; rfl, by rw [cell_of_row u _ 1 _ _ _ h]; rfl, by rw [cell_of_row u _ 2 _ _ _ h]; rfl, (hk.boxed hA (by omega) (by omega) (by omega)).cell, (hk.boxed hF (by omega) (by omega) (by omega)).cell⟩
    have HPC := Lib.hid hPC
    obtain ⟨hp0, hp1, hp2, cA, cF⟩ := hPC W hK
    rw [hpV] at HBD
    clear hSC hNU hHT hRC hFIN hMX hPC hol hrl hmul hT hpV hxs hrs
    cases rf with
    | false =>
      by_cases hpl : tx = [38]
      · have hT38 : (T.toList == [38]) = true := (nums_iff T [38] [38] rfl).1 (by rw [hnT]; exact hpl)
        have HO := Lib.hid (show outL htmN (k, false, tx) = nums (encS 38) by simp [outL]; rw [hpl]; exact (encS_nums 38).symm)
        have HR := Lib.hid (show resL htmN a0 (k, false, tx) = [(6, a0 + k)] by simp [resL, hpl])
        clear hnT hnu hht hso
        gi_wp2_with first
          | (refine ⟨trivial, ?_⟩; gi_at_call 21; refine (CallsIn.inRound l (callsIn_wide.2 (HNU.out _))).mono ?_; rintro e w' ⟨rfl, hbn⟩; replace hK := hK.trans (KeptB.of_below hbn (Nat.le_trans hWs hK.bel.size) (by omega) (by omega)); replace hBd := hBd.low hbn; replace hRs := hRs.low hbn; obtain ⟨hp0, hp1, hp2, cA, cF⟩ := HPC.out _ hK)
          | (refine ⟨trivial, ?_⟩; gi_at_call 19; refine (CallsIn.inRound l (callsIn_wide.2 (HHT.out _ (HMX.out _ hK)))).mono ?_; rintro e w' ⟨rfl, hbn⟩; replace hK := hK.trans (KeptB.of_below hbn (Nat.le_trans hWs hK.bel.size) (by omega) (by omega)); replace hBd := hBd.low hbn; replace hRs := hRs.low hbn; obtain ⟨hp0, hp1, hp2, cA, cF⟩ := HPC.out _ hK)
          | (refine ⟨trivial, ?_⟩; gi_at_call 31; refine (CallsIn.inRound l (callsIn_wide.2 (HBD.out 6 _ hRs (Nat.le_trans hWs hK.bel.size) (hK.boxed hA (by omega) (by omega) (by omega))))).mono ?_; rintro e w' ⟨rfl, hrn, hkn⟩; replace hK := hK.trans (KeptB.ofR hkn (by omega)); replace hBd := hBd.keptR hkn (by omega) (by omega) (by omega); replace hRs := hrn; obtain ⟨hp0, hp1, hp2, cA, cF⟩ := HPC.out _ hK)
          | (refine ⟨trivial, ?_⟩; gi_at_call 27; refine (CallsIn.inRound l (callsIn_wide.2 (utf8_Put 38 _))).mono ?_; rintro e w' ⟨rfl, hbn⟩; replace hK := hK.trans (KeptB.of_below hbn (Nat.le_trans hWs hK.bel.size) (by omega) (by omega)); replace hBd := hBd.low hbn; replace hRs := hRs.low hbn; obtain ⟨hp0, hp1, hp2, cA, cF⟩ := HPC.out _ hK)
          | (refine ⟨trivial, ?_⟩; gi_at_call 25; refine (CallsIn.inRound l (callsIn_wide.2 (HWR.out (encS 38) (by decide) _ (Nat.le_trans hWs hK.bel.size) hBd))).mono ?_; rintro e w' ⟨rfl, hbn, hkn⟩; replace hK := hK.trans (KeptB.ofW hkn (by omega)); replace hRs := hRs.kept hkn (by omega) (by omega) (by omega); replace hBd := hbn; obtain ⟨hp0, hp1, hp2, cA, cF⟩ := HPC.out _ hK)
        refine HFIN.out _ hK (by rw [HO.out]; exact hBd) (by rw [HR.out]; exact hRs)
      · have hT38 : (T.toList == [38]) = false := by
          cases h : T.toList == [38] with
          | false => rfl
          | true => exact absurd (hnT.symm.trans ((nums_iff T [38] [38] rfl).2 h)) hpl
        have HO := Lib.hid (show outL htmN (k, false, tx) = nums T by simp [outL, hnT])
        have HR := Lib.hid (show resL htmN a0 (k, false, tx) = [] by simp [resL, hpl])
        clear hnT hnu hht hso
        gi_wp2_with first
          | (refine ⟨trivial, ?_⟩; gi_at_call 21; refine (CallsIn.inRound l (callsIn_wide.2 (HNU.out _))).mono ?_; rintro e w' ⟨rfl, hbn⟩; replace hK := hK.trans (KeptB.of_below hbn (Nat.le_trans hWs hK.bel.size) (by omega) (by omega)); replace hBd := hBd.low hbn; replace hRs := hRs.low hbn; obtain ⟨hp0, hp1, hp2, cA, cF⟩ := HPC.out _ hK)
          | (refine ⟨trivial, ?_⟩; gi_at_call 19; refine (CallsIn.inRound l (callsIn_wide.2 (HHT.out _ (HMX.out _ hK)))).mono ?_; rintro e w' ⟨rfl, hbn⟩; replace hK := hK.trans (KeptB.of_below hbn (Nat.le_trans hWs hK.bel.size) (by omega) (by omega)); replace hBd := hBd.low hbn; replace hRs := hRs.low hbn; obtain ⟨hp0, hp1, hp2, cA, cF⟩ := HPC.out _ hK)
          | (refine ⟨trivial, ?_⟩; gi_at_call 25; refine (CallsIn.inRound l (callsIn_wide.2 (HWR.out T (by omega) _ (Nat.le_trans hWs hK.bel.size) hBd))).mono ?_; rintro e w' ⟨rfl, hbn, hkn⟩; replace hK := hK.trans (KeptB.ofW hkn (by omega)); replace hRs := hRs.kept hkn (by omega) (by omega) (by omega); replace hBd := hbn; obtain ⟨hp0, hp1, hp2, cA, cF⟩ := HPC.out _ hK)
        refine HFIN.out _ hK (by rw [HO.out]; exact hBd) (by rw [HR.out]; rw [List.append_nil]; exact hRs)
    | true =>
      cases o with
      | true =>
        have HO := Lib.hid (show outL htmN (k, true, tx) = nums (encS r) by simp [outL, hso]; exact (encS_nums r).symm)
        have HR := Lib.hid (show resL htmN a0 (k, true, tx) = [] by simp [resL, hso])
        clear hnT hnu hht hso
        gi_wp2_with first
          | (refine ⟨trivial, ?_⟩; gi_at_call 26; refine (CallsIn.inRound l (callsIn_wide.2 (HSC.out _))).mono ?_; rintro e w' ⟨rfl, hbn⟩; replace hK := hK.trans (KeptB.of_below hbn (Nat.le_trans hWs hK.bel.size) (by omega) (by omega)); replace hBd := hBd.low hbn; replace hRs := hRs.low hbn; obtain ⟨hp0, hp1, hp2, cA, cF⟩ := HPC.out _ hK)
          | (refine ⟨trivial, ?_⟩; gi_at_call 21; refine (CallsIn.inRound l (callsIn_wide.2 (HNU.out _))).mono ?_; rintro e w' ⟨rfl, hbn⟩; replace hK := hK.trans (KeptB.of_below hbn (Nat.le_trans hWs hK.bel.size) (by omega) (by omega)); replace hBd := hBd.low hbn; replace hRs := hRs.low hbn; obtain ⟨hp0, hp1, hp2, cA, cF⟩ := HPC.out _ hK)
          | (refine ⟨trivial, ?_⟩; gi_at_call 19; refine (CallsIn.inRound l (callsIn_wide.2 (HHT.out _ (HMX.out _ hK)))).mono ?_; rintro e w' ⟨rfl, hbn⟩; replace hK := hK.trans (KeptB.of_below hbn (Nat.le_trans hWs hK.bel.size) (by omega) (by omega)); replace hBd := hBd.low hbn; replace hRs := hRs.low hbn; obtain ⟨hp0, hp1, hp2, cA, cF⟩ := HPC.out _ hK)
          | (refine ⟨trivial, ?_⟩; gi_at_call 27; refine (CallsIn.inRound l (callsIn_wide.2 (utf8_Put r _))).mono ?_; rintro e w' ⟨rfl, hbn⟩; replace hK := hK.trans (KeptB.of_below hbn (Nat.le_trans hWs hK.bel.size) (by omega) (by omega)); replace hBd := hBd.low hbn; replace hRs := hRs.low hbn; obtain ⟨hp0, hp1, hp2, cA, cF⟩ := HPC.out _ hK)
          | (refine ⟨trivial, ?_⟩; gi_at_call 25; refine (CallsIn.inRound l (callsIn_wide.2 (HWR.out (encS r) (by rw [encS_size]; have := encN_len r; omega) _ (Nat.le_trans hWs hK.bel.size) hBd))).mono ?_; rintro e w' ⟨rfl, hbn, hkn⟩; replace hK := hK.trans (KeptB.ofW hkn (by omega)); replace hRs := hRs.kept hkn (by omega) (by omega) (by omega); replace hBd := hbn; obtain ⟨hp0, hp1, hp2, cA, cF⟩ := HPC.out _ hK)
        refine HFIN.out _ hK (by rw [HO.out]; exact hBd) (by rw [HR.out]; rw [List.append_nil]; exact hRs)
      | false =>
        cases n2 with
        | true =>
          have HO := Lib.hid (show outL htmN (k, true, tx) = nums (encS 65533) by simp [outL, hso, hnu]; exact (encS_nums 65533).symm)
          have HR := Lib.hid (show resL htmN a0 (k, true, tx) = [(4, a0 + k)] by simp [resL, hso, hnu])
          clear hnT hnu hht hso
          gi_wp2_with first
            | (refine ⟨trivial, ?_⟩; gi_at_call 26; refine (CallsIn.inRound l (callsIn_wide.2 (HSC.out _))).mono ?_; rintro e w' ⟨rfl, hbn⟩; replace hK := hK.trans (KeptB.of_below hbn (Nat.le_trans hWs hK.bel.size) (by omega) (by omega)); replace hBd := hBd.low hbn; replace hRs := hRs.low hbn; obtain ⟨hp0, hp1, hp2, cA, cF⟩ := HPC.out _ hK)
            | (refine ⟨trivial, ?_⟩; gi_at_call 21; refine (CallsIn.inRound l (callsIn_wide.2 (HNU.out _))).mono ?_; rintro e w' ⟨rfl, hbn⟩; replace hK := hK.trans (KeptB.of_below hbn (Nat.le_trans hWs hK.bel.size) (by omega) (by omega)); replace hBd := hBd.low hbn; replace hRs := hRs.low hbn; obtain ⟨hp0, hp1, hp2, cA, cF⟩ := HPC.out _ hK)
            | (refine ⟨trivial, ?_⟩; gi_at_call 19; refine (CallsIn.inRound l (callsIn_wide.2 (HHT.out _ (HMX.out _ hK)))).mono ?_; rintro e w' ⟨rfl, hbn⟩; replace hK := hK.trans (KeptB.of_below hbn (Nat.le_trans hWs hK.bel.size) (by omega) (by omega)); replace hBd := hBd.low hbn; replace hRs := hRs.low hbn; obtain ⟨hp0, hp1, hp2, cA, cF⟩ := HPC.out _ hK)
            | (refine ⟨trivial, ?_⟩; gi_at_call 31; refine (CallsIn.inRound l (callsIn_wide.2 (HBD.out 4 _ hRs (Nat.le_trans hWs hK.bel.size) (hK.boxed hA (by omega) (by omega) (by omega))))).mono ?_; rintro e w' ⟨rfl, hrn, hkn⟩; replace hK := hK.trans (KeptB.ofR hkn (by omega)); replace hBd := hBd.keptR hkn (by omega) (by omega) (by omega); replace hRs := hrn; obtain ⟨hp0, hp1, hp2, cA, cF⟩ := HPC.out _ hK)
            | (refine ⟨trivial, ?_⟩; gi_at_call 27; refine (CallsIn.inRound l (callsIn_wide.2 (utf8_Put 65533 _))).mono ?_; rintro e w' ⟨rfl, hbn⟩; replace hK := hK.trans (KeptB.of_below hbn (Nat.le_trans hWs hK.bel.size) (by omega) (by omega)); replace hBd := hBd.low hbn; replace hRs := hRs.low hbn; obtain ⟨hp0, hp1, hp2, cA, cF⟩ := HPC.out _ hK)
            | (refine ⟨trivial, ?_⟩; gi_at_call 25; refine (CallsIn.inRound l (callsIn_wide.2 (HWR.out (encS 65533) (by decide) _ (Nat.le_trans hWs hK.bel.size) hBd))).mono ?_; rintro e w' ⟨rfl, hbn, hkn⟩; replace hK := hK.trans (KeptB.ofW hkn (by omega)); replace hRs := hRs.kept hkn (by omega) (by omega) (by omega); replace hBd := hbn; obtain ⟨hp0, hp1, hp2, cA, cF⟩ := HPC.out _ hK)
          refine HFIN.out _ hK (by rw [HO.out]; exact hBd) (by rw [HR.out]; exact hRs)
        | false =>
          cases h2 with
          | true =>
            have HO := Lib.hid (show outL htmN (k, true, tx) = nums (encS h1) by simp [outL, hso, hnu, hht]; exact (encS_nums h1).symm)
            have HR := Lib.hid (show resL htmN a0 (k, true, tx) = [(7, a0 + k)] by simp [resL, hso, hnu, hht])
            clear hnT hnu hht hso
            gi_wp2_with first
              | (refine ⟨trivial, ?_⟩; gi_at_call 26; refine (CallsIn.inRound l (callsIn_wide.2 (HSC.out _))).mono ?_; rintro e w' ⟨rfl, hbn⟩; replace hK := hK.trans (KeptB.of_below hbn (Nat.le_trans hWs hK.bel.size) (by omega) (by omega)); replace hBd := hBd.low hbn; replace hRs := hRs.low hbn; obtain ⟨hp0, hp1, hp2, cA, cF⟩ := HPC.out _ hK)
              | (refine ⟨trivial, ?_⟩; gi_at_call 21; refine (CallsIn.inRound l (callsIn_wide.2 (HNU.out _))).mono ?_; rintro e w' ⟨rfl, hbn⟩; replace hK := hK.trans (KeptB.of_below hbn (Nat.le_trans hWs hK.bel.size) (by omega) (by omega)); replace hBd := hBd.low hbn; replace hRs := hRs.low hbn; obtain ⟨hp0, hp1, hp2, cA, cF⟩ := HPC.out _ hK)
              | (refine ⟨trivial, ?_⟩; gi_at_call 19; refine (CallsIn.inRound l (callsIn_wide.2 (HHT.out _ (HMX.out _ hK)))).mono ?_; rintro e w' ⟨rfl, hbn⟩; replace hK := hK.trans (KeptB.of_below hbn (Nat.le_trans hWs hK.bel.size) (by omega) (by omega)); replace hBd := hBd.low hbn; replace hRs := hRs.low hbn; obtain ⟨hp0, hp1, hp2, cA, cF⟩ := HPC.out _ hK)
              | (refine ⟨trivial, ?_⟩; gi_at_call 31; refine (CallsIn.inRound l (callsIn_wide.2 (HBD.out 7 _ hRs (Nat.le_trans hWs hK.bel.size) (hK.boxed hA (by omega) (by omega) (by omega))))).mono ?_; rintro e w' ⟨rfl, hrn, hkn⟩; replace hK := hK.trans (KeptB.ofR hkn (by omega)); replace hBd := hBd.keptR hkn (by omega) (by omega) (by omega); replace hRs := hrn; obtain ⟨hp0, hp1, hp2, cA, cF⟩ := HPC.out _ hK)
              | (refine ⟨trivial, ?_⟩; gi_at_call 27; refine (CallsIn.inRound l (callsIn_wide.2 (utf8_Put h1 _))).mono ?_; rintro e w' ⟨rfl, hbn⟩; replace hK := hK.trans (KeptB.of_below hbn (Nat.le_trans hWs hK.bel.size) (by omega) (by omega)); replace hBd := hBd.low hbn; replace hRs := hRs.low hbn; obtain ⟨hp0, hp1, hp2, cA, cF⟩ := HPC.out _ hK)
              | (refine ⟨trivial, ?_⟩; gi_at_call 25; refine (CallsIn.inRound l (callsIn_wide.2 (HWR.out (encS h1) (by rw [encS_size]; have := encN_len h1; omega) _ (Nat.le_trans hWs hK.bel.size) hBd))).mono ?_; rintro e w' ⟨rfl, hbn, hkn⟩; replace hK := hK.trans (KeptB.ofW hkn (by omega)); replace hRs := hRs.kept hkn (by omega) (by omega) (by omega); replace hBd := hbn; obtain ⟨hp0, hp1, hp2, cA, cF⟩ := HPC.out _ hK)
            refine HFIN.out _ hK (by rw [HO.out]; exact hBd) (by rw [HR.out]; exact hRs)
          | false =>
            obtain ⟨U, hU⟩ : ∃ U : ByteArray, T ++ ⟨#[59]⟩ = U := ⟨_, rfl⟩
            have hUs : U.size = T.size + 1 := by rw [← hU, ByteArray.size_append]; rfl
            have hnU : nums U = tx ++ [59] := by rw [← hU, nums_appR, hnT]; rfl
            obtain ⟨V, hV⟩ : ∃ V : ByteArray, ⟨#[38]⟩ ++ U = V := ⟨_, rfl⟩
            have hVs : V.size = U.size + 1 := by rw [← hV, ByteArray.size_append, Nat.add_comm]; rfl
            have hnV : nums V = 38 :: (tx ++ [59]) := by rw [← hV, nums_appR, hnU]; rfl
            have hRL : ∀ u : World, u.cell? ⟨0, 0, none⟩ = some (.int .i64 m) → Calls Try.prog 12 #[.string U, .int .i64 ((a0 : Int) + (k : Int) + 1)] u fun e w' => e = .returned (.tuple #[.string U, .slice none 0 0]) ∧ Below u.heap.size u w' := by
              intro u hmu
              have h := HRC.out rfl U (a0 + k + 1) u hnU (by omega) hmu
              rw [show ((a0 + k + 1 : Nat) : Int) = (a0 : Int) + (k : Int) + 1 by omega] at h
              exact h
            have HRL := Lib.hid hRL
            have hU1 : T.size + (⟨#[59]⟩ : ByteArray).size ≤ 1000000 := by rw [show (⟨#[59]⟩ : ByteArray).size = 1 from rfl]; omega
            have hV1 : (⟨#[38]⟩ : ByteArray).size + U.size ≤ 1000000 := by rw [show (⟨#[38]⟩ : ByteArray).size = 1 from rfl]; omega
            have HO := Lib.hid (show outL htmN (k, true, tx) = nums V by simp [outL, hso, hnu, hht, hnV])
            have HR := Lib.hid (show resL htmN a0 (k, true, tx) = [(6, a0 + k)] by simp [resL, hso, hnu, hht])
            clear hnT hnu hht hso hRL HRC hnU hnV
            gi_wp2_with first
              | (refine ⟨trivial, ?_⟩; gi_at_call 26; refine (CallsIn.inRound l (callsIn_wide.2 (HSC.out _))).mono ?_; rintro e w' ⟨rfl, hbn⟩; replace hK := hK.trans (KeptB.of_below hbn (Nat.le_trans hWs hK.bel.size) (by omega) (by omega)); replace hBd := hBd.low hbn; replace hRs := hRs.low hbn; obtain ⟨hp0, hp1, hp2, cA, cF⟩ := HPC.out _ hK)
              | (refine ⟨trivial, ?_⟩; gi_at_call 21; refine (CallsIn.inRound l (callsIn_wide.2 (HNU.out _))).mono ?_; rintro e w' ⟨rfl, hbn⟩; replace hK := hK.trans (KeptB.of_below hbn (Nat.le_trans hWs hK.bel.size) (by omega) (by omega)); replace hBd := hBd.low hbn; replace hRs := hRs.low hbn; obtain ⟨hp0, hp1, hp2, cA, cF⟩ := HPC.out _ hK)
              | (refine ⟨trivial, ?_⟩; gi_at_call 19; refine (CallsIn.inRound l (callsIn_wide.2 (HHT.out _ (HMX.out _ hK)))).mono ?_; rintro e w' ⟨rfl, hbn⟩; replace hK := hK.trans (KeptB.of_below hbn (Nat.le_trans hWs hK.bel.size) (by omega) (by omega)); replace hBd := hBd.low hbn; replace hRs := hRs.low hbn; obtain ⟨hp0, hp1, hp2, cA, cF⟩ := HPC.out _ hK)
              | (refine ⟨trivial, ?_⟩; gi_at_call 31; refine (CallsIn.inRound l (callsIn_wide.2 (HBD.out 6 _ hRs (Nat.le_trans hWs hK.bel.size) (hK.boxed hA (by omega) (by omega) (by omega))))).mono ?_; rintro e w' ⟨rfl, hrn, hkn⟩; replace hK := hK.trans (KeptB.ofR hkn (by omega)); replace hBd := hBd.keptR hkn (by omega) (by omega) (by omega); replace hRs := hrn; obtain ⟨hp0, hp1, hp2, cA, cF⟩ := HPC.out _ hK)
              | (refine ⟨trivial, ?_⟩; gi_at_call 12; refine (CallsIn.inRound l (callsIn_wide.2 (HRL.out _ (HMX.out _ hK)))).mono ?_; rintro e w' ⟨rfl, hbn⟩; replace hK := hK.trans (KeptB.of_below hbn (Nat.le_trans hWs hK.bel.size) (by omega) (by omega)); replace hBd := hBd.low hbn; replace hRs := hRs.low hbn; obtain ⟨hp0, hp1, hp2, cA, cF⟩ := HPC.out _ hK)
              | (refine ⟨trivial, ?_⟩; gi_at_call 25; refine (CallsIn.inRound l (callsIn_wide.2 (HWR.out V (by omega) _ (Nat.le_trans hWs hK.bel.size) hBd))).mono ?_; rintro e w' ⟨rfl, hbn, hkn⟩; replace hK := hK.trans (KeptB.ofW hkn (by omega)); replace hRs := hRs.kept hkn (by omega) (by omega) (by omega); replace hBd := hbn; obtain ⟨hp0, hp1, hp2, cA, cF⟩ := HPC.out _ hK; obtain ⟨lv, hLb, hLr, _⟩ := hRs; obtain ⟨va, vl, vc, rfl⟩ := own_slice hLr; have cL := hLb.cell; have fL := hLb.frozen; have hap := app_nothing w' va vl vc (own_slice_le hLr))
              | (gi_at_builtin; refine wpListIn_append_run rfl _ _ _ _ rfl _ _ rfl rfl _ _ hap ?_)
            exact HFIN.out _ (hK.trans (KeptB.ofR (keptR_set _) (by omega))) (by rw [HO.out]; exact hBd.keptR (keptR_set _) (by omega) (by omega) (by omega)) (by rw [HR.out]; exact ⟨_, hLb.set _, ownsRow_setCell_below hLr (by show w.heap.size + 1 + 1 < w.heap.size + 5; omega) _, fun e => by simp at e⟩)
  case done =>
    rintro D ys W hD hys ⟨⟨⟨⟨⟨hA, hF⟩, hsb⟩, hBd⟩, hRs⟩, hB⟩ hK
    have hraw : rawL ys = prN 0 (nums s) := hys
    rw [hraw] at hBd hRs
    obtain ⟨xs, hxs⟩ : ∃ xs, (prN 0 (nums s)).flatMap (outL htmN) = xs := ⟨_, rfl⟩
    have hxb : isBs xs := by rw [← hxs]; exact outL_isBs _ _ fun p hp => (prN_isBs _ _ 0 (Nat.le_refl _) (nums_isBs s) p hp).1
    rw [hxs] at hBd
    have HX := Lib.hid hxs
    have HS := Lib.hid (fun (u : World) (hu : BdZ u (w.heap.size + 1) (w.heap.size + 5) xs) => bd_stringG (w.heap.size + 1) (w.heap.size + 5) xs u hu hxb)
    obtain ⟨v, hLb, hrow, hz⟩ := hRs
    have HZ := Lib.hid hz
    clear hz
    have hWs := hsb.lt
    obtain ⟨va, vl, vc, rfl⟩ := own_slice hrow
    have cL := hLb.cell
    have cLd : W.drew.cell? ⟨w.heap.size + 1 + 1, 0, none⟩ = some (.slice va vl vc) := cL
    have hBdd : BdZ W.drew (w.heap.size + 1) (w.heap.size + 5) xs := hBd.low (Below.refl _ W).drew
    have HBD := Lib.hid (And.intro hBd hBdd)
    have HROW := Lib.hid hrow
    have HEND : ∀ w2, Kept W w2 (w.heap.size + 1) (w.heap.size + 5) → w2.heap[D]? = some (.deferred (some [])) ∧ w2.ownsRow w.heap.size 41 2 (.slice va vl vc) ((prN 0 (nums s)).flatMap (resL htmN a0)).length (reaC ((prN 0 (nums s)).flatMap (resL htmN a0))) ∧ Below w.heap.size w w2 := by
      intro w2 hk
      exact ⟨hk.others.same D _ hK rfl, ownsRow_base (row_typ hrow fun i cs m hi hk' => hk.typ i cs _ m (by decide) (by omega) hk') (by omega), hB.trans (hk.bel.mono (by omega))⟩
    have HEN := Lib.hid HEND
    clear hBd hBdd hxs hrow HEND
    gi_wp2
    first | gi_region_with (refine ⟨trivial, ?_⟩; gi_at_call 28; refine (callsIn_wide.2 (HS.out _ (by first | exact HBD.out.1 | exact HBD.out.2))).mono ?_; rintro e w2 ⟨rfl, hb2, ho2, hko2, hk0⟩; have hk2 : Kept W w2 (w.heap.size + 1) (w.heap.size + 5) := (by first | exact hk0 (by omega) | exact (Kept.of_below ((Below.refl _ W).drew) (by omega) (by omega)).trans (hk0 (by show w.heap.size + 5 ≤ W.heap.size; omega))); have cL2 := (hk2.boxed (k := w.heap.size + 1 + 1) hLb (by omega) (by omega)).cell) | fail
    all_goals
      gi_wp2
      obtain ⟨hKd, hro, hbf⟩ := HEN.out w2 hk2
      refine ⟨by simp, .inl ⟨_, _, rfl, run_takeDeferred hKd, ?_⟩⟩
      refine ⟨.tuple #[.string (strOfNums xs), .slice va vl vc], ?_, _, by rw [HX.out], ownsRow_putObj hro _ hKd rfl, HZ.out, hbf.trans (belowK_b (w := w) (Nat.le_refl _) _ D _ _ (by omega) hKd rfl rfl)⟩
      simp [results, Try.f12, go_sem]
end Go.Proofs.Ytkdkoondchbekaa
