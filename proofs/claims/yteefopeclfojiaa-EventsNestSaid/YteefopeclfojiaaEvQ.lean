/-
  Layer 16: the walk of events.Own.
-/
import Derived.Test.YteefopeclfojiaaEvL
import Derived.Test.YteefopeclfojiaaQt
namespace Go.Proofs.Yteefopeclfojiaa
open Go.RowKit Go.Sort
attribute [local go_sem] Oper.semAt_some
/-- the texts of events from a up to b. -/
def segL (es : List Evt) (a b : Nat) : List Int := txsL ((es.drop a).take (b - a))
/-- .. between children. -/
def ownL (es : List Evt) (E : Nat → Option Nat) : Nat → List Nat → List Int
  | _, [] => []
  | k, x :: r => segL es k x ++ ownL es E ((E x).getD 0 + 1) r
/-- an element's own text. -/
def ownP (es : List Evt) (i : Int) : List Int := match atP es i with
  | none => []
  | some g => ownL es (endO g) (i.toNat + 1) (kidsP es i) ++ segL es (fromK (endO g) (i.toNat + 1) (kidsP es i)) (endN g i)
theorem fromK_cons' (E : Nat → Option Nat) (k y : Nat) (pre : List Nat) : fromK E k (y :: pre) = fromK E ((E y).getD 0 + 1) pre := by
  unfold fromK
  cases pre with
  | nil => rfl
  | cons z r =>
    rw [List.getLast?_cons_cons]
    cases hz : (z :: r).getLast? with
    | none => simp at hz
    | some a => rfl
theorem ownL_snoc (es : List Evt) (E : Nat → Option Nat) : ∀ (pre : List Nat) (k x : Nat), ownL es E k (pre ++ [x]) = ownL es E k pre ++ segL es (fromK E k pre) x
  | [], k, x => by simp [ownL, fromK]
  | y :: r, k, x => by
    rw [List.cons_append, ownL, ownL, ownL_snoc es E r, fromK_cons', List.append_assoc]
theorem segL_isBs (es : List Evt) (a b : Nat) : isBs (segL es a b) := txsL_isBs _
theorem ownL_isBs (es : List Evt) (E : Nat → Option Nat) : ∀ (l : List Nat) (k : Nat), isBs (ownL es E k l)
  | [], _ => fun x h => by cases h
  | y :: r, k => fun x h => by
    rw [ownL] at h
    rcases List.mem_append.1 h with h | h
    · exact segL_isBs es k y x h
    · exact ownL_isBs es E r _ x h
theorem txsL_append (a b : List Evt) : txsL (a ++ b) = txsL a ++ txsL b := by unfold txsL; rw [List.flatMap_append]
theorem segL_le (es : List Evt) (a b : Nat) : (segL es a b).length ≤ (txsL es).length := by
  have h1 := txsL_le (es.drop a) (b - a)
  have h2 : (txsL (es.drop a)).length ≤ (txsL es).length := by
    conv => rhs; rw [← List.take_append_drop a es, txsL_append, List.length_append]
    omega
  unfold segL
  omega
theorem ownL_le (es : List Evt) (E : Nat → Option Nat) : ∀ (l : List Nat) (k : Nat), (ownL es E k l).length ≤ l.length * (txsL es).length
  | [], _ => by simp [ownL]
  | y :: r, k => by
    have h1 := segL_le es k y
    have h2 := ownL_le es E r ((E y).getD 0 + 1)
    rw [ownL, List.length_append, List.length_cons, Nat.succ_mul]
    omega
theorem strOfNums_app (a b : List Int) : strOfNums a ++ strOfNums b = strOfNums (a ++ b) := by
  unfold strOfNums
  apply ByteArray.ext
  simp
/-- the last child ends ahead of its element's end. -/
theorem kidF_last2 {E : Nat → Option Nat} {e i : Nat} (hlt : ∀ p j, E p = some j → p < j) (hin : ∀ p j, p < e → i < p → E p = some j → j < e) : ∀ (f k : Nat), k ≤ e → i < k → fromK E k (kidF E e f k) ≤ e
  | 0, k, h, _ => h
  | f + 1, k, h, hi => by
    rw [kidF]
    split
    · rename_i hk
      split
      · rename_i j hj
        have h1 := hin k j hk hi hj
        have h2 := hlt k j hj
        rw [fromK_cons E k k j _ hj]
        exact kidF_last2 hlt hin f (j + 1) h1 (by omega)
      · refine Nat.le_trans (fromK_le _ k (k + 1) (Nat.le_succ _)) ?_
        exact kidF_last2 hlt hin f (k + 1) hk (by omega)
    · exact h
theorem had2 {c f j : Nat} {p q : Option Addr} (h : c = f → j = f) : (if c = f then p else q) = q ∨ j = f := by
  by_cases e : c = f
  · exact .inr (h e)
  · exact .inl (if_neg e)
theorem keepsOthers_belowQ {w w' : World} (hb : Below w.heap.size w w') : KeepsOthers w w' := ⟨hb.size, fun k _ hk _ => (hb.block k (Array.getElem?_eq_some_iff.1 hk).1).trans hk⟩
/-- what lasts within Own's loop: the place behind what was taken, what was taken. -/
structure OwnJ (v : Value) (g : Gr) (w : World) (q p mb p0 : Nat) (fv : Nat) (ov : List Int) (W : World) : Prop where
  bl : Boxed W w.heap.size 22 v
  bt : Boxed W q 73 (.pointer (some ⟨p, 0, none⟩))
  bf : Boxed W (q + 1) 3 (.int .i64 fv)
  bo : Boxed W (q + 2) 9 (.string (strOfNums ov))
  tr : TrK (q + 4) (q + 3) p mb p0 v g W
  be : Below w.heap.size w W
  sz : q + 5 ≤ W.heap.size
theorem OwnJ.turn {v : Value} {g : Gr} {w : World} {q p mb p0 fv : Nat} {ov : List Int} {W W' : World} (h : OwnJ v g w q p mb p0 fv ov W) (hk : KeepsB [w.heap.size, q, q + 1, q + 2, q + 4, q + 3, p, mb] W W') (hb : Below w.heap.size W W') : OwnJ v g w q p mb p0 fv ov W' := by
  have hs := h.sz
  have k4 : KeepsB [q + 4, q + 3, p, mb] W W' := fun k hk' => hk k (by simp at hk' ⊢; omega)
  exact ⟨((hk _ (by simp) h.bl.lt).1).trans h.bl, ((hk _ (by simp) h.bt.lt).1).trans h.bt, ((hk _ (by simp) h.bf.lt).1).trans h.bf, ((hk _ (by simp) h.bo.lt).1).trans h.bo, h.tr.keep k4, h.be.trans hb, Nat.le_trans hs hb.size⟩
theorem keeps_set {bs : List Nat} (W : World) (g i : Nat) (u : Value) (h : ∀ k ∈ bs, k ≠ g) : KeepsB bs W (W.setCell ⟨g, i, none⟩ u) := fun k hk _ =>
  ⟨heap_setCell_other W ⟨g, i, none⟩ k u (h k hk), Nat.le_of_eq (by simp)⟩
theorem OwnJ.setF {v : Value} {g : Gr} {w : World} {q p mb p0 fv : Nat} {ov : List Int} {W : World} (h : OwnJ v g w q p mb p0 fv ov W) (hq : w.heap.size < q) (hp : p < q) (hm : mb < q) (fv' : Nat) : OwnJ v g w q p mb p0 fv' ov (W.setCell ⟨q + 1, 0, none⟩ (.int .i64 fv')) :=
  ⟨h.bl.other (by omega) _, h.bt.other (by omega) _, h.bf.set _, h.bo.other (by omega) _, h.tr.keep (keeps_set W _ _ _ fun k hk => by simp at hk; omega), h.be.setCell (p := ⟨q + 1, 0, none⟩) (by show _ ≤ q + 1; omega) _, by simp; exact h.sz⟩
theorem OwnJ.setO {v : Value} {g : Gr} {w : World} {q p mb p0 fv : Nat} {ov : List Int} {W : World} (h : OwnJ v g w q p mb p0 fv ov W) (hq : w.heap.size < q) (hp : p < q) (hm : mb < q) (ov' : List Int) : OwnJ v g w q p mb p0 fv ov' (W.setCell ⟨q + 2, 0, none⟩ (.string (strOfNums ov'))) :=
  ⟨h.bl.other (by omega) _, h.bt.other (by omega) _, h.bf.other (by omega) _, h.bo.set _, h.tr.keep (keeps_set W _ _ _ fun k hk => by simp at hk; omega), h.be.setCell (p := ⟨q + 2, 0, none⟩) (by show _ ≤ q + 2; omega) _, by simp; exact h.sz⟩
def OwnI (es : List Evt) (v : Value) (g : Gr) (w : World) (q p mb p0 : Nat) (pre : List Nat) (W : World) : Prop := OwnJ v g w q p mb p0 (fromK (endO g) (p0 + 1) pre) (ownL es (endO g) (p0 + 1) pre) W
theorem ownI_own (es : List Evt) (v : Value) (g : Gr) (w : World) (q p mb p0 B : Nat) (hq : w.heap.size ≤ q) (hB : q + 5 ≤ B) (hp : p < B) (hmb : mb < B) : OwnM NoMu B (OwnI es v g w q p mb p0) := by
  intro pre X Y h ht
  have hbl := ht.below (C := w.heap.size) (by omega) h.be.size
  obtain ⟨row, hg, hrow⟩ := ht
  refine OwnJ.turn h (fun k hk hl => ⟨hg.block k hl (fun e => ?_), hg.size⟩) hbl
  have := (hrow k e.symm).1
  simp at hk
  omega
/-- texts of a part of events: 'texts(l[a:b:c])'. -/
theorem texts_part {B b off n cap : Nat} {es : List Evt} {w : World} (hr : EvsR B w (.slice (some ⟨b, off, none⟩) n cap) es) (hB : B ≤ w.heap.size) (hn : es.length ≤ 9999) (ht : (txsL es).length < 140737488355329) (f x c : Nat) (ad : Option Addr) (had : ad = some ⟨b, off + f * 5, none⟩ ∨ x = f) (hfx : f ≤ x) (hx : x ≤ es.length) (u : World) (hu : Below w.heap.size w u) :
    Calls Try.prog 65 #[.slice ad (x - f) c] u fun r w' => r = .returned (.string (strOfNums (segL es f x))) ∧ Below u.heap.size u w' := by
  have hr1 := hr.sub f (x - f) c (by omega)
  have hr2 : EvsR B w (.slice ad (x - f) c) ((es.drop f).take (x - f)) := by
    rcases had with e | e
    · rw [e]
      exact hr1
    · subst e
      rw [Nat.sub_self]
      exact ⟨[], ⟨_, c, rfl, fun i v h => by simp [evsC] at h⟩, trivial⟩
  have hl : ((es.drop f).take (x - f)).length ≤ 1000000 := by rw [List.length_take, List.length_drop]; omega
  have h2 := segL_le es f x
  exact events_texts B _ _ u (hr2.below (hu.mono hB) (Nat.le_refl _)) (Nat.le_trans hB hu.size) hl (by unfold segL at h2; omega)
set_option maxRecDepth 100000 in
set_option maxHeartbeats 8000000 in
theorem events_Own (B : Nat) (es : List Evt) (v : Value) (i : Int) (w : World) (hr : EvsR B w v es) (hB : B ≤ w.heap.size) (hn : es.length ≤ 9999) (hz : ∀ e ∈ es, e.at_.length ≤ 140737488351232) (htx : (txsL es).length < 140737488355329) (hcap : ∃ a cap, v = .slice a es.length cap ∧ es.length ≤ cap ∧ cap ≤ maxLen) :
    Calls Try.prog 22 #[v, .int .i64 i] w fun r w' => r = .returned (.string (strOfNums (ownP es i))) ∧ Below w.heap.size w w' := by
  refine (callsIn_wide (n := 5)).1 ?_
  refine callsIn_of_wp_marks Try.func22 rfl trivial ?_ rfl
  simp only [Try.ntmps22, List.size_toArray, List.length_cons, List.length_nil, Nat.reduceAdd, Nat.reduceSub, Array.replicate_succ, Array.replicate_zero, List.push_toArray, List.append_toArray, List.nil_append, List.cons_append]
  obtain ⟨a, cap, hv, hc1, hc2⟩ := hcap
  subst hv
  have hb1 := (Below.refl w.heap.size w).alloc (Nat.le_refl _) (.cells #[.slice a es.length cap] 22)
  have bL := Boxed.new w 22 (.slice a es.length cap)
  have hg := events_at B es _ i _ (hr.below hb1 hB) (Nat.le_trans hB hb1.size) (by omega) hz
  have hs1 : (w.alloc (.cells #[.slice a es.length cap] 22)).heap.size = w.heap.size + 1 := by simp
  have hkp : ∀ g, atP es i = some g → kidsP es i = kidsL (endO g) i.toNat (endN g i) := fun g h => by unfold kidsP; rw [h]
  unfold ownP
  obtain ⟨R, hR⟩ : ∃ R, atP es i = R := ⟨_, rfl⟩
  rw [hR] at hg hkp ⊢
  obtain ⟨nn, hnn⟩ : ∃ n, es.length = n := ⟨_, rfl⟩
  have HN := Lib.hid hnn
  rw [hnn] at hg hs1 bL hb1 hc1
  have H := Lib.hid hg
  clear hg
  cases R with
  | none =>
    rw [hnn]
    gi_wp2_with (refine ⟨trivial, ?_⟩; gi_at_call 63; refine (callsIn_wide.2 H.out).mono ?_; rintro e w2 ⟨rfl, hb2⟩)
    refine ⟨.string ⟨#[]⟩, ?_, rfl, hb1.trans ((hb2.alloc hb2.size _).mono hb1.size)⟩
    simp [results, Try.f22, go_sem]
  | some g =>
    obtain ⟨-, hN, hcell, p0, j, hip, hE, hEn, hpj, hj⟩ := atP_nest hR
    subst hip
    rw [hkp g rfl]
    simp only [hEn, Int.toNat_natCast]
    have hlt : ∀ p j, endO g p = some j → p < j ∧ j < 1000000 := fun p j h => by
      obtain ⟨h1, h2, -⟩ := hN.lt p j h
      exact ⟨h1, by omega⟩
    rw [hnn]
    gi_wp2_with first
      | (refine ⟨trivial, ?_⟩; gi_at_call 63; refine (callsIn_wide.2 H.out).mono ?_; rintro e w2 ⟨p, mb, rfl, hb2, ht, hm, hp, hmb⟩; have bL2 : Boxed w2 _ _ _ := (hb2.block _ (by omega)).trans bL)
      | (refine ⟨trivial, ?_⟩; gi_at_call 64; refine (tree_kids_in Fence.wide _ trivial rfl _ _ _).mono ?_; rintro e w3 ⟨rfl, rfl⟩)
    have J0 : OwnI es (.slice a nn cap) g w w2.heap.size p mb p0 [] (((((w2.alloc (.cells #[.pointer (some ⟨p, 0, none⟩)] 73)).alloc (.cells #[.int .i64 ((p0 : Int) + 1)] 3)).alloc (.cells #[.string ⟨#[]⟩] 9)).alloc (.cells #[.pointer (some ⟨p, 0, none⟩)] 73)).alloc (.cells #[.int .i64 (p0 : Nat)] 3)) := by
      have x0 := Boxed.new w2 73 (.pointer (some ⟨p, 0, none⟩))
      obtain ⟨y1, hy1⟩ : ∃ y, w2.alloc (.cells #[.pointer (some ⟨p, 0, none⟩)] 73) = y := ⟨_, rfl⟩
      have s1 : y1.heap.size = w2.heap.size + 1 := by rw [← hy1]; simp
      rw [hy1] at x0 ⊢
      have x1 := Boxed.new y1 3 (.int .i64 ((p0 : Int) + 1))
      obtain ⟨y2, hy2⟩ : ∃ y, y1.alloc (.cells #[.int .i64 ((p0 : Int) + 1)] 3) = y := ⟨_, rfl⟩
      have s2 : y2.heap.size = w2.heap.size + 2 := by rw [← hy2]; simp; omega
      have hy2b : Below y1.heap.size y1 y2 := by rw [← hy2]; exact (Below.refl _ _).alloc (Nat.le_refl _) _
      rw [hy2] at x1 ⊢
      have x2 := Boxed.new y2 9 (.string ⟨#[]⟩)
      obtain ⟨y3, hy3⟩ : ∃ y, y2.alloc (.cells #[.string ⟨#[]⟩] 9) = y := ⟨_, rfl⟩
      have s3 : y3.heap.size = w2.heap.size + 3 := by rw [← hy3]; simp; omega
      have hy3b : Below y2.heap.size y2 y3 := by rw [← hy3]; exact (Below.refl _ _).alloc (Nat.le_refl _) _
      rw [hy3] at x2 ⊢
      have x3 := Boxed.new y3 73 (.pointer (some ⟨p, 0, none⟩))
      obtain ⟨y4, hy4⟩ : ∃ y, y3.alloc (.cells #[.pointer (some ⟨p, 0, none⟩)] 73) = y := ⟨_, rfl⟩
      have s4 : y4.heap.size = w2.heap.size + 4 := by rw [← hy4]; simp; omega
      have hy4b : Below y3.heap.size y3 y4 := by rw [← hy4]; exact (Below.refl _ _).alloc (Nat.le_refl _) _
      rw [hy4] at x3 ⊢
      have x4 := Boxed.new y4 3 (.int .i64 (p0 : Nat))
      obtain ⟨y5, hy5⟩ : ∃ y, y4.alloc (.cells #[.int .i64 (p0 : Nat)] 3) = y := ⟨_, rfl⟩
      have s5 : y5.heap.size = w2.heap.size + 5 := by rw [← hy5]; simp; omega
      have hy5b : Below y4.heap.size y4 y5 := by rw [← hy5]; exact (Below.refl _ _).alloc (Nat.le_refl _) _
      rw [hy5] at x4 ⊢
      have hy1b : Below w2.heap.size w2 y1 := by rw [← hy1]; exact (Below.refl _ _).alloc (Nat.le_refl _) _
      have b25 := ((((hy1b.trans (hy2b.mono (by omega))).trans (hy3b.mono (by omega))).trans (hy4b.mono (by omega))).trans (hy5b.mono (by omega)))
      have b15 := (((hy2b.trans (hy3b.mono (by omega))).trans (hy4b.mono (by omega))).trans (hy5b.mono (by omega)))
      have b35 := ((hy3b.trans (hy4b.mono (by omega))).trans (hy5b.mono (by omega)))
      have b45 := hy4b.trans (hy5b.mono (by omega))
      rw [s1] at x1
      rw [s2] at x2
      rw [s3] at x3
      rw [s4] at x4
      have hl2 := hb2.size
      exact ⟨(b25.block _ bL2.lt).trans bL2, (b15.block _ (by omega)).trans x0, (b35.block _ (by omega)).trans x1, (b45.block _ (by omega)).trans x2, ⟨x4, (hy5b.block _ (by omega)).trans x3, ht.below b25 ht.lt, hm.below b25 (Nat.le_refl _)⟩, (hb1.trans (hb2.mono hb1.size)).trans (b25.mono (by omega)), by omega⟩
    have hs3 : (((((w2.alloc (.cells #[.pointer (some ⟨p, 0, none⟩)] 73)).alloc (.cells #[.int .i64 ((p0 : Int) + 1)] 3)).alloc (.cells #[.string ⟨#[]⟩] 9)).alloc (.cells #[.pointer (some ⟨p, 0, none⟩)] 73)).alloc (.cells #[.int .i64 (p0 : Nat)] 3)).heap.size = w2.heap.size + 5 := by simp
    obtain ⟨w3, hw3⟩ : ∃ x, (((((w2.alloc (.cells #[.pointer (some ⟨p, 0, none⟩)] 73)).alloc (.cells #[.int .i64 ((p0 : Int) + 1)] 3)).alloc (.cells #[.string ⟨#[]⟩] 9)).alloc (.cells #[.pointer (some ⟨p, 0, none⟩)] 73)).alloc (.cells #[.int .i64 (p0 : Nat)] 3)) = x := ⟨_, rfl⟩
    have hs2 := hb2.size
    have hpl2 := ht.lt
    have hml2 := hm.lt
    rw [hw3] at J0 hs3 ⊢
    clear hw3 H hb1 hb2 bL bL2 ht hm
    obtain ⟨q, hq⟩ : ∃ q, w2.heap.size = q := ⟨_, rfl⟩
    rw [hq] at J0 hs3 hs2 hpl2 hml2 ⊢
    clear hq
    have hwq : w.heap.size < q := by omega
    have hwp : w.heap.size < p ∧ w.heap.size < mb := by omega
    clear hp hmb hs2 hs1
    obtain ⟨x0, hx0⟩ : ∃ x, es[p0]? = some x := ⟨_, List.getElem?_eq_getElem (by omega)⟩
    obtain ⟨b, off, cap', av, hv', hbB, -⟩ := hr.get (Below.refl B w) (Nat.le_refl _) p0 x0 hx0
    rw [hnn] at hv'
    injection hv' with e1 e2 e3
    subst e1
    have hlt' : ∀ p j, endO g p = some j → p < j := fun p j h => (hlt p j h).1
    have hin : ∀ p' j', p' < j → p0 < p' → endO g p' = some j' → j' < j := fun p' j' h1 h2 h3 => by
      rcases hN.lam p0 j p' j' hE h3 h2 with h4 | h4 <;> omega
    have hlast : fromK (endO g) (p0 + 1) (kidsL (endO g) p0 j) ≤ j := kidF_last2 hlt' hin j (p0 + 1) (by omega) (by omega)
    have hjn : j ≤ es.length := by omega
    have HTX := Lib.hid (fun (f x c : Nat) (ad : Option Addr) (h0 : ad = some ⟨b, off + f * 5, none⟩ ∨ x = f) (h1 : f ≤ x) (h2 : x ≤ es.length) (u : World) (hu : Below w.heap.size w u) => texts_part (cap := cap) (B := B) (off := off) (b := b) (n := es.length) (es := es) (w := w) hr hB hn htx f x c ad h0 h1 h2 u hu)
    have HKL : (kidsL (endO g) p0 j).length ≤ 10000 := by
      have h1 := kidF_len (e := j) hlt' j (p0 + 1)
      unfold kidsL
      omega
    have hmulT : 10000 * (txsL es).length ≤ 10000 * 140737488355328 := Nat.mul_le_mul (Nat.le_refl _) (by omega)
    clear hr hx0 hz hN hR hkp e2 e3
    refine wpIn_rangeFunc_ownP NoMu rfl (by omega) (gf := 96) (lb := #[.pointer (some ⟨q + 4, 0, none⟩), .pointer (some ⟨q + 3, 0, none⟩)]) rfl trivial (enters_of Try.func96 (by kernel_rfl) rfl)
      (kids_stops _ (by omega) (q + 4) (q + 3) p mb p0 j (.slice (some ⟨b, off, none⟩) nn cap) g hcell hlt hE w3 J0.tr) KeepsB.trans (fun W l o o' h1 _ _ _ => KeepsB.putObj (B := w3.heap.size) (fun b hb => by simp at hb; omega) l o' h1) (Below.refl _ _) (fun _ => rfl)
      (OwnI es (.slice (some ⟨b, off, none⟩) nn cap) g w q p mb p0) (fun _ _ _ => False) (ownI_own es _ g w q p mb p0 _ (by omega) (by omega) (by omega) (by omega)) (fun _ _ _ _ h _ => h.elim)
      J0
      (fun x a' W => a' = { tmps := #[.slice (some ⟨b, off, none⟩) nn cap, .int .i64 (p0 : Nat), .pointer (some ⟨w.heap.size, 0, none⟩), undef, .string ⟨#[]⟩, .pointer (some ⟨q, 0, none⟩), .pointer (some ⟨q + 1, 0, none⟩), .pointer (some ⟨q + 2, 0, none⟩), .int .i64 (x : Nat), .slice (some ⟨b, off, none⟩) nn cap, .int .i64 (p0 : Nat), .pointer (some ⟨p, 0, none⟩), .pointer (some ⟨p, 0, none⟩), .bool false, .int .i64 (p0 : Nat), .int .i64 ((p0 : Int) + 1), .pointer (some ⟨p, 0, none⟩), .int .i64 (p0 : Nat), .func (.func 96) #[] #[.pointer (some ⟨q + 4, 0, none⟩), .pointer (some ⟨q + 3, 0, none⟩)], .int .i64 (x : Nat), undef, undef, undef, undef, undef, undef, undef, undef, undef, undef, undef, undef, undef, undef, undef, undef, undef, undef, undef, undef, undef, undef, undef, undef, undef, undef, undef], defers := [] })
      (fun x a' _ _ _ _ h _ _ => h) ?assign ?body ?done ?stop
    case assign =>
      rintro l pre x W K hI hK
      gi_wp2
      exact hK _ _ (KeepsFrom.refl _ _) (fun k _ h => ⟨rfl, Nat.le_refl _⟩) hI rfl
    case body =>
      rintro l pre x a' W hl hI rfl hsp hlen
      obtain ⟨h1, h2, h3, jx, h4⟩ := kidF_pre hlt' _ _ _ _ hsp
      unfold OwnI at hI
      obtain ⟨fv, hfv⟩ : ∃ f, fromK (endO g) (p0 + 1) pre = f := ⟨_, rfl⟩
      obtain ⟨ov, hov⟩ : ∃ o, ownL es (endO g) (p0 + 1) pre = o := ⟨_, rfl⟩
      have hfs := fromK_snoc (endO g) (p0 + 1) pre x jx h4
      have hos := ownL_snoc es (endO g) pre (p0 + 1) x
      have hol := ownL_le es (endO g) pre (p0 + 1)
      have hsl := segL_le es fv x
      rw [hfv] at h1 hos hI
      rw [hov] at hos hI hol
      have hpl : pre.length ≤ 10000 := by
        have h9 := hsp.length_le
        rw [List.length_append, List.length_singleton] at h9
        omega
      have hol2 : ov.length ≤ 10000 * (txsL es).length := Nat.le_trans hol (Nat.mul_le_mul hpl (Nat.le_refl _))
      obtain ⟨sg, hsg⟩ : ∃ s, segL es fv x = s := ⟨_, rfl⟩
      have HT := Lib.hid (fun (u : World) (hu : Below w.heap.size w u) => HTX.out fv x (x - fv) (if x = fv then some ⟨b, off, none⟩ else some ⟨b, off + fv * 5, none⟩) (by by_cases e : x = fv <;> simp [e]) h1 (by omega) u hu)
      rw [hsg] at HT hos hsl
      have hbdr : Below w.heap.size w W.drew := hI.be.drew
      have cO := hI.bo.cell
      have cL := hI.bl.cell
      have cF := hI.bf.cell
      have hq1 : (fv : Int) ≤ (x : Int) := by omega
      have hq2 : (x : Int) ≤ (cap : Int) := by omega
      have hq3 : (0 : Int) ≤ (fv : Int) := by omega
      have hq4 : ¬ (9223372036854775807 : Nat) < (strOfNums ov).size + (strOfNums sg).size := by rw [strOfNums_size, strOfNums_size]; omega
      have HI := Lib.hid hI
      clear hI hsg hol hol2 hsl hmulT HTX hlast hin
      dsimp only
      gi_wp2_with fail
      by_cases hxe : x = fv
      all_goals
        first | (rw [if_pos hxe] at HT; subst hxe; rw [Nat.sub_self] at HT) | rw [if_neg hxe] at HT
        have k0 := cell_regrown cO
        have k1 := cell_regrown cL
        have k2 := cell_regrown cF
        have cT := fun (d : Nat) (os : Array Obj) => CallsIn.regrown_of (CallsIn.inRound l (callsIn_wide (n := 2).2 (HT.out _ ((below_regrown W d os).mono HI.out.be.size |> HI.out.be.trans))))
        refine wpIn_region_below_tail 8 (by kernel_rfl) (by kernel_rfl) (by kernel_rfl) ?_
        simp only [List.take_succ_cons, List.take_zero, List.drop_succ_cons, List.drop_zero]
        repeat (refine wpQuietIn_step (askedR (fun _ => trivial)) (fun K hK => ?_); go_simp; first | (refine hK _ ?_; clear hK K) | (apply Exists.intro; refine ⟨fun _ => ?_, hK _ ?_⟩; (first | exact cT _ _ | exact ⟨by decide, cT _ _⟩); clear hK K))
      all_goals
        clear k0 k1 k2 cT
        refine wpQuietIn_nil ?_
        rintro w4 ⟨⟨dq, osq⟩, hw4⟩
        have hb4 : Below W.heap.size W w4 := by rw [hw4]; exact below_regrown W dq osq
        clear hw4
        have J4 := HI.out.turn (KeepsB.below hb4) (hb4.mono HI.out.be.size)
        have c4 := J4.bo.cell
        have f4 := J4.bo.frozen
        have J5 := J4.setO hwq hpl2 hml2 (ov ++ sg)
        rw [strOfNums_app]
        have KO5 := (keepsOthers_belowQ hb4).trans (KeepsOthers.setCell w4 ⟨q + 2, 0, none⟩ (.string (strOfNums (ov ++ sg))))
        have KB5 : KeepsB [q + 4, q + 3, p, mb] W (w4.setCell ⟨q + 2, 0, none⟩ (.string (strOfNums (ov ++ sg)))) := (KeepsB.below hb4).trans (keeps_set w4 _ _ _ fun k hk => by simp at hk; omega)
        have d0 := J4.bt.cell
        have d1 : _ = some (Value.map (some mb)) := J4.tr.tr.cell 1 rfl
        have d2 := J4.bf.cell
        have d3 := J4.bf.frozen
        have hlk := ends_look J5.tr.mp (x : Int)
        rw [(endV_some hcell h4).1] at hlk
        have J6 := J5.setF hwq hpl2 hml2 (jx + 1)
        have hjx := (hlt x jx h4).2
        have KO6 := KO5.trans (KeepsOthers.setCell _ ⟨q + 1, 0, none⟩ (.int .i64 ((jx + 1 : Nat) : Int)))
        have KB6 : KeepsB [q + 4, q + 3, p, mb] W _ := KB5.trans (keeps_set _ (q + 1) 0 (.int .i64 ((jx + 1 : Nat) : Int)) fun k hk => by simp at hk; omega)
        have HJ := Lib.hid (And.intro J6 (And.intro KO6 KB6))
        clear J5 J6 KO5 KO6 KB5 KB6 HI HT cO cL cF J4
        gi_wp2_with fail
        obtain ⟨J6, KO6, KB6⟩ := HJ.out
        refine ⟨KO6.from _, KB6, ?_⟩
        unfold OwnI
        rw [hfs, hos]
        exact J6
    case done =>
      rintro D ys W hD rfl hI hK
      unfold OwnI at hI
      have hol := ownL_le es (endO g) (kidsL (endO g) p0 j) (p0 + 1)
      obtain ⟨fv, hfv⟩ : ∃ f, fromK (endO g) (p0 + 1) (kidsL (endO g) p0 j) = f := ⟨_, rfl⟩
      obtain ⟨ov, hov⟩ : ∃ o, ownL es (endO g) (p0 + 1) (kidsL (endO g) p0 j) = o := ⟨_, rfl⟩
      rw [hfv, hov] at hI
      rw [hfv] at hlast
      rw [hov] at hol
      have hsl := segL_le es fv j
      have hol2 : ov.length ≤ 10000 * (txsL es).length := Nat.le_trans hol (Nat.mul_le_mul HKL (Nat.le_refl _))
      obtain ⟨sg, hsg⟩ : ∃ s, segL es fv j = s := ⟨_, rfl⟩
      have HT := Lib.hid (fun (u : World) (hu : Below w.heap.size w u) => HTX.out fv j (cap - fv) (if cap = fv then some ⟨b, off, none⟩ else some ⟨b, off + fv * 5, none⟩) (had2 (by omega)) hlast hjn u hu)
      rw [hsg] at HT hsl
      have HF := Lib.hid (show ownL es (endO g) (p0 + 1) (kidsL (endO g) p0 j) ++ segL es (fromK (endO g) (p0 + 1) (kidsL (endO g) p0 j)) j = ov ++ sg by rw [hfv, hov, hsg])
      have hq1 : (fv : Int) ≤ (j : Int) := by omega
      have hq2 : (j : Int) ≤ (cap : Int) := by omega
      have hq3 : (0 : Int) ≤ (fv : Int) := by omega
      have hq4 : ¬ (9223372036854775807 : Nat) < (strOfNums ov).size + (strOfNums sg).size := by rw [strOfNums_size, strOfNums_size]; omega
      have hdr := hI.be.drew
      have HI := Lib.hid hI
      clear hsg hol hol2 hsl hmulT HTX hin hfv hov
      gi_wp2_with fail
      have k0 := cell_regrown hI.bo.cell
      have k1 := cell_regrown hI.bl.cell
      have k2 := cell_regrown hI.bf.cell
      have k3 := cell_regrown hI.bt.cell
      have k4 := cell_regrown (show W.cell? ⟨p, 1, none⟩ = some (Value.map (some mb)) from hI.tr.tr.cell 1 rfl)
      have hlk := fun (d : Nat) (os : Array Obj) => ends_look (hI.tr.mp.below (below_regrown W d os) (Nat.le_refl _)) (p0 : Int)
      rw [(endV_some hcell hE).1] at hlk
      clear hI
      by_cases hxe : cap = fv
      all_goals
        first | (rw [if_pos hxe] at HT; obtain rfl : j = fv := by omega
                 subst hxe; rw [Nat.sub_self] at HT) | rw [if_neg hxe] at HT
        have cT := fun (d : Nat) (os : Array Obj) => CallsIn.regrown_of (callsIn_wide (n := 4).2 (HT.out _ ((below_regrown W d os).mono HI.out.be.size |> HI.out.be.trans)))
        refine wpIn_region_quiet_below rfl (by kernel_rfl) (by kernel_rfl) ?_
        repeat (refine wpQuietIn_step (askedR (fun _ => trivial)) (fun K hK => ?_); go_simp; first | (refine hK _ ?_; clear hK K) | (apply Exists.intro; refine ⟨fun _ => ?_, hK _ ?_⟩; (first | exact cT _ _ | exact ⟨by decide, cT _ _⟩); clear hK K))
        clear k0 k1 k2 k3 k4 hlk cT
        refine wpQuietIn_nil ?_
        rintro w4 ⟨⟨dq, osq⟩, hw4⟩
        have hb4 : Below W.heap.size W w4 := by rw [hw4]; exact below_regrown W dq osq
        clear hw4
        have hK4 := (hb4.block D (Array.getElem?_eq_some_iff.1 hK).1).trans hK
        have hBf := HI.out.be.trans (hb4.mono HI.out.be.size)
        clear HT HI
        gi_wp2_with fail
        refine ⟨by simp, .inl ⟨_, _, rfl, run_takeDeferred hK4, ?_⟩⟩
        refine ⟨.string (strOfNums (ov ++ sg)), ?_, by rw [HF.out], hBf.trans (belowK_b (w := w) (Nat.le_refl _) _ D _ _ (by omega) hK4 rfl rfl)⟩
        simp [results, Try.f22, go_sem, strOfNums_app]
    case stop =>
      rintro D c pre W hD ht h
      exact h.elim
end Go.Proofs.Yteefopeclfojiaa
