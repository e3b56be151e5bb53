/-
  Parts AtX AtY of this seat's texts, in one file: contracts of functions that the law reaches, and the plain laws behind them. No condition.
-/
import Derived.Test.YteefopeclfojiaaG13
import Derived.Test.YteefopeclfojiaaG14
import Derived.Deep.CutBlock
import Derived.Deep.DeepCutAuto
/- 
  Layer 24 in plain terms: an element of another name, put in among a feed's children, changes nothing; an entry of fields is found as them.
 -/
namespace Go.Proofs.Yteefopeclfojiaa
open Go.RowKit
/-- an element put in ahead of a child. -/
def Fo.ins : Fo → Nat → KidT → Fo
  | .nil, _, _ => .nil
  | .txt t r, j, U => .txt t (r.ins j U)
  | .elt n a ks r, 0, U => .elt U.1 U.2.1 U.2.2 (.elt n a ks r)
  | .elt n a ks r, j + 1, U => .elt n a ks (r.ins j U)
theorem ins_fl : ∀ (F : Fo) (o j k : Nat) (U : KidT), (F.offs o)[j]? = some k → ∃ A B, F.fl = A ++ B ∧ o + A.length = k ∧ (F.ins j U).fl = A ++ (flT U ++ B)
  | .nil, _, _, _, _, h => by simp [Fo.offs] at h
  | .txt t r, o, j, k, U, h => by
    rw [Fo.offs] at h
    obtain ⟨A, B, h1, h2, h3⟩ := ins_fl r (o + 1) j k U h
    refine ⟨evT t :: A, B, by rw [Fo.fl, h1]; rfl, by rw [List.length_cons]; omega, ?_⟩
    cases r <;> (rw [Fo.ins, Fo.fl, h3]; rfl)
  | .elt n a ks r, o, 0, k, U, h => by
    rw [Fo.offs] at h
    simp at h
    subst h
    exact ⟨[], (Fo.elt n a ks r).fl, rfl, rfl, by rw [Fo.ins, Fo.fl]; unfold flT; simp⟩
  | .elt n a ks r, o, j + 1, k, U, h => by
    rw [Fo.offs] at h
    obtain ⟨A, B, h1, h2, h3⟩ := ins_fl r (o + ks.sz + 2) j k U (by simpa using h)
    refine ⟨evS n a :: (ks.fl ++ evE n :: A), B, by rw [Fo.fl, h1]; simp, ?_, by rw [Fo.ins, Fo.fl, h3]; simp⟩
    rw [List.length_cons, List.length_append, List.length_cons, fl_len]
    omega
theorem ins_wf : ∀ (F : Fo) (p : Bool) (j : Nat) (U : KidT), j < F.kids.length → WfT U → Wf p F → Wf p (F.ins j U)
  | .nil, _, _, _, h, _, _ => by simp [Fo.kids] at h
  | .txt t r, p, j, U, h, hU, hw => ⟨hw.1, hw.2.1, ins_wf r true j U h hU hw.2.2⟩
  | .elt n a ks r, p, 0, U, _, hU, hw => ⟨hU.1, hU.2.1, hU.2.2, hw.1, hw.2.1, hw.2.2.1, hw.2.2.2⟩
  | .elt n a ks r, p, j + 1, U, h, hU, hw => ⟨hw.1, hw.2.1, hw.2.2.1, ins_wf r false j U (by simpa [Fo.kids] using h) hU hw.2.2.2⟩
theorem ins_kids : ∀ (F : Fo) (j : Nat) (U : KidT), j < F.kids.length → (F.ins j U).kids = F.kids.take j ++ U :: F.kids.drop j
  | .nil, _, _, h => by simp [Fo.kids] at h
  | .txt t r, j, U, h => by rw [Fo.ins, Fo.kids, Fo.kids, ins_kids r j U h]
  | .elt n a ks r, 0, U, _ => by rw [Fo.ins, Fo.kids, List.take_zero, List.drop_zero]; rfl
  | .elt n a ks r, j + 1, U, h => by
    rw [Fo.ins, Fo.kids, Fo.kids, ins_kids r j U (by simpa [Fo.kids] using h)]
    simp
theorem ins_nmd {F : Fo} {j : Nat} {U : KidT} {nm : NmT} (hj : j < F.kids.length) (hn : U.1 ≠ nm) : nmdT (F.ins j U) nm = nmdT F nm := by
  unfold nmdT
  rw [ins_kids F j U hj, List.filter_append, List.filter_cons, if_neg (by simpa using hn), ← List.filter_append, List.take_append_drop]
/-- the names of a feed's own fields. -/
def headN : List NmT := [(spA, ⟨#[105, 100]⟩), (spA, ⟨#[116, 105, 116, 108, 101]⟩), (spA, ⟨#[108, 105, 110, 107]⟩), (spA, ⟨#[117, 112, 100, 97, 116, 101, 100]⟩), (spA, ⟨#[97, 117, 116, 104, 111, 114]⟩), entryN, (spC, ⟨#[100, 97, 116, 101]⟩)]
theorem feed_ins {T U : KidT} {j : Nat} (hj : j < T.2.2.kids.length) (hn : U.1 ∉ headN) : feedTQ (T.1, T.2.1, T.2.2.ins j U) = feedTQ T := by
  have h : ∀ nm ∈ headN, nmdT (T.2.2.ins j U) nm = nmdT T.2.2 nm := fun nm hm => ins_nmd hj (fun e => hn (e ▸ hm))
  have h1 := h _ (show (spA, ⟨#[105, 100]⟩) ∈ headN by unfold headN; simp)
  have h2 := h _ (show (spA, ⟨#[116, 105, 116, 108, 101]⟩) ∈ headN by unfold headN; simp)
  have h3 := h _ (show (spA, ⟨#[108, 105, 110, 107]⟩) ∈ headN by unfold headN; simp)
  have h4 := h _ (show (spA, ⟨#[117, 112, 100, 97, 116, 101, 100]⟩) ∈ headN by unfold headN; simp)
  have h5 := h _ (show (spA, ⟨#[97, 117, 116, 104, 111, 114]⟩) ∈ headN by unfold headN; simp)
  have h6 := h _ (show entryN ∈ headN by unfold headN; simp)
  have h7 := h _ (show (spC, ⟨#[100, 97, 116, 101]⟩) ∈ headN by unfold headN; simp)
  unfold feedTQ headTT headT bothT dateT dateT txtT linkT authorT
  simp only [h1, h2, h3, h4, h5, h6, h7]
/-- what stands ahead of a child, and behind. -/
theorem tree_ins {es : List Evt} {g : Gr} {T U : KidT} {j k : Nat} (hG : growP es = some g) (h : OnT es (endO g) 0 T) (hw : WfT T) (hes : es = flT T) (hk : (kidsP es 0)[j]? = some k) (hU : WfT U) :
    j < T.2.2.kids.length ∧ 0 < k ∧ k ≤ es.length ∧ es.take k ++ flT U ++ es.drop k = flT (T.1, T.2.1, T.2.2.ins j U) ∧ WfT (T.1, T.2.1, T.2.2.ins j U) := by
  have hk0 : kidsP es 0 = T.2.2.offs 1 := h.kids hG
  rw [hk0] at hk
  have hj : j < T.2.2.kids.length := by
    rw [← (h.both).len]
    exact (List.getElem?_eq_some_iff.1 hk).1
  obtain ⟨A, B, h1, h2, h3⟩ := ins_fl T.2.2 1 j k U hk
  have he : es = (evS T.1 T.2.1 :: A) ++ (B ++ [evE T.1]) := by rw [hes]; unfold flT; rw [h1]; simp
  have hl : (evS T.1 T.2.1 :: A).length = k := by rw [List.length_cons]; omega
  refine ⟨hj, by omega, ?_, ?_, hw.1, hw.2.1, ins_wf _ _ _ _ hj hU hw.2.2⟩
  · rw [he, List.length_append]; omega
  · rw [he, List.take_left' hl, List.drop_left' hl]
    unfold flT
    simp only
    rw [h3]
    unfold flT
    simp
theorem elT_wf {n : NmT} (s : ByteArray) (hn : emB n.2 = false) : WfT (elT n s) := by
  refine ⟨rfl, hn, ?_⟩
  show Wf false (elF s)
  unfold elF
  cases h : emB s with
  | true => rw [if_pos rfl]; trivial
  | false => rw [if_neg Bool.false_ne_true]; exact ⟨rfl, h, trivial⟩
theorem items_ins {es : List Evt} {j k : Nat} {n : NmT} (s : ByteArray) (hi : isP es = true) (hk : (kidsP es 0)[j]? = some k) (hn : emB n.2 = false) (hh : n ∉ headN) :
    feedQ (es.take k ++ flT (elT n s) ++ es.drop k) = feedQ es ∧ isP (es.take k ++ flT (elT n s) ++ es.drop k) = true ∧ 0 < k ∧ k ≤ es.length := by
  have h1 : (growP es).isSome = true := by unfold isP at hi; rw [Bool.and_eq_true] at hi; exact hi.1
  obtain ⟨g, hG⟩ := Option.isSome_iff_exists.1 h1
  obtain ⟨T, hes, hw, hT⟩ := whole_tree hG
  obtain ⟨hj, hk0, hkl, h2, h3⟩ := tree_ins (U := elT n s) hG hT hw hes hk (elT_wf s hn)
  obtain ⟨h4, h5⟩ := feed_flT _ h3
  obtain ⟨h6, h7⟩ := feed_tree hG hT
  rw [h2, h4, h5, h6]
  exact ⟨feed_ins hj hh, by rw [← h7]; exact hi, hk0, hkl⟩
end Go.Proofs.Yteefopeclfojiaa
/- 
  Layer 24: the law AtomItems.
 -/
namespace Go.Proofs.Yteefopeclfojiaa
open Go.RowKit Go.Sort
attribute [local go_sem] Oper.semAt_some
/-- how great events are with an element more. -/
theorem ins_sizes {es : List Evt} {k : Nat} {n : NmT} {s : ByteArray} (ok : GreatOk es) (hs : s.size ≤ 300) : (es.take k ++ flT (elT n s) ++ es.drop k).length ≤ 303 ∧ (∀ e ∈ es.take k ++ flT (elT n s) ++ es.drop k, e.at_.length ≤ 1000000) ∧ (txsL (es.take k ++ flT (elT n s) ++ es.drop k)).length < 140737488355329 := by
  have h0 : (flT (elT n s)).length ≤ 3 ∧ (∀ e ∈ flT (elT n s), e.at_ = []) ∧ (txsL (flT (elT n s))).length ≤ s.size := by
    cases h : emB s with
    | true => rw [elT_t h]; exact ⟨by simp, by simp [evS, evE], by simp [txsL, evS, evE, nums_nil]⟩
    | false => rw [elT_f h]; exact ⟨by simp, by simp [evS, evE, evT], by simp [txsL, evS, evE, evT, nums_nil, nums_length]⟩
  have h1 := ok.len
  have h2 := ok.txs
  have h3 : (es.take k).length + (es.drop k).length = es.length := by rw [← List.length_append, List.take_append_drop]
  have h4 : (txsL (es.take k)).length + (txsL (es.drop k)).length = (txsL es).length := by
    rw [← List.length_append, ← txsL_append, List.take_append_drop]
  refine ⟨by rw [List.length_append, List.length_append]; omega, fun e he => ?_, by rw [txsL_append, txsL_append, List.length_append, List.length_append]; omega⟩
  rcases List.mem_append.1 he with he | he
  · rcases List.mem_append.1 he with he | he
    · have := ok.ats e (List.mem_of_mem_take he); omega
    · rw [h0.2.1 e he]; exact Nat.zero_le _
  · have := ok.ats e (List.mem_of_mem_drop he); omega
/-- a place among children. -/
theorem rem_in (i : Int) (m : Nat) (hm : 0 < m) (hl : m ≤ 300) : ∃ j : Nat, j < m ∧ (wrap64 (i.tmod (m : Int) + (m : Int))).tmod (m : Int) = (j : Int) := by
  have h0 : (0 : Int) < (m : Int) := by omega
  have h1 := Int.tmod_lt_of_pos i h0
  have h2 := Int.lt_tmod_of_pos i h0
  obtain ⟨x, hx⟩ : ∃ x, i.tmod (m : Int) + (m : Int) = x := ⟨_, rfl⟩
  have h3 : 0 ≤ x := by omega
  have h4 : x < 600 := by omega
  have h5 : wrap64 x = x := by unfold wrap64; omega
  rw [hx, h5]
  have h6 := Int.tmod_lt_of_pos x h0
  have h7 : 0 ≤ x.tmod (m : Int) := Int.tmod_nonneg _ h3
  exact ⟨(x.tmod (m : Int)).toNat, by omega, by omega⟩
/-- the names that the law knows. -/
def knownN : List ByteArray := [⟨#[105, 100]⟩, ⟨#[116, 105, 116, 108, 101]⟩, ⟨#[108, 105, 110, 107]⟩, ⟨#[117, 112, 100, 97, 116, 101, 100]⟩, ⟨#[97, 117, 116, 104, 111, 114]⟩, ⟨#[101, 110, 116, 114, 121]⟩]
theorem known_at {k : Nat} {nm : ByteArray} (h : knownN[k]? = some nm) : (#[.string ⟨#[105, 100]⟩, .string ⟨#[116, 105, 116, 108, 101]⟩, .string ⟨#[108, 105, 110, 107]⟩, .string ⟨#[117, 112, 100, 97, 116, 101, 100]⟩, .string ⟨#[97, 117, 116, 104, 111, 114]⟩, .string ⟨#[101, 110, 116, 114, 121]⟩] : Array Value)[k]? = some (.string nm) := by
  have : (#[.string ⟨#[105, 100]⟩, .string ⟨#[116, 105, 116, 108, 101]⟩, .string ⟨#[108, 105, 110, 107]⟩, .string ⟨#[117, 112, 100, 97, 116, 101, 100]⟩, .string ⟨#[97, 117, 116, 104, 111, 114]⟩, .string ⟨#[101, 110, 116, 114, 121]⟩] : Array Value) = (knownN.map Value.string).toArray := rfl
  rw [this, List.getElem?_toArray, List.getElem?_map, h]
  rfl
theorem not_head {n : NmT} (h1 : ∀ nm ∈ knownN, n ≠ (spA, nm)) (h2 : n ≠ (spC, ⟨#[100, 97, 116, 101]⟩)) : n ∉ headN := by
  unfold knownN at h1
  simp only [List.mem_cons, List.not_mem_nil, or_false, forall_eq_or_imp, forall_eq] at h1
  obtain ⟨a, b, c, d, e, f⟩ := h1
  unfold headN entryN
  simp only [List.mem_cons, List.not_mem_nil, or_false, not_or]
  exact ⟨a, b, c, d, e, f, h2⟩
theorem count_step {P : Nat → Bool} {K : List Nat} {j x : Nat} (hx : K[j]? = some x) : ((K.take (j + 1)).filter P).length = ((K.take j).filter P).length + (if P x then 1 else 0) := by
  rw [filter_take hx, List.length_append]
  split <;> rfl
set_option maxRecDepth 100000 in
set_option maxHeartbeats 32000000 in
theorem law_AtomItems (v : Value) (es : List Evt) (i : Int) (n : ByteArray × ByteArray) (s : ByteArray) (w : World) (hl : EvsIn w v es) (hnm : NmIn n) (hs : s.size ≤ 140737488351232) :
    Calls Try.prog 8 #[v, .int .i64 i, .agg #[.string n.1, .string n.2], .string s] w fun r w' => r = .returned (.bool true) ∧ Below w.heap.size w w' := by
  obtain ⟨avs, ⟨a, cap, rfl, -⟩, -⟩ := id hl.r
  obtain ⟨n1, n2⟩ := n
  have z1 : n1.size ≤ 140737488351232 := hnm.a
  have z2 : n2.size ≤ 140737488351232 := hnm.b
  simp only
  have hb1 := (Below.refl w.heap.size w).alloc (Nat.le_refl _) (.cells #[.string n1, .string n2] 24)
  have bX := RowAt.new w #[.string n1, .string n2] 24
  have G1 := Lib.hid (fun (W : World) (hW : Below w.heap.size w W) => ref16_Great w.heap.size es _ W (hl.r.below hW (Nat.le_refl _)) hW.size hl.at_.n hl.small)
  have HW := Lib.hid law24_wakes
  have HL := Lib.hid hl
  obtain ⟨nn, hnn⟩ : ∃ m, es.length = m := ⟨_, rfl⟩
  have HNN := Lib.hid hnn
  rw [hnn] at G1 ⊢
  clear hl hnm hnn
  go_enter Try.func8, Try.ntmps8
  go_wp2_with fail
  refine (G1.out _ hb1).mono ?_
  rintro r w1 ⟨b1, rfl, hg1, hb2⟩
  replace bX := bX.below hb2 bX.lt
  replace hb1 := bt hb1 hb2
  clear hb2 G1
  cases b1 with
  | true =>
    clear hg1
    go_wp2_with fail
    refine (HW.out _).mono ?_
    rintro r wz ⟨rfl, hbz⟩
    go_wp2_with fail
    go_ret
    exact ⟨rfl, bt hb1 hbz⟩
  | false =>
    have ok := hg1 rfl
    have OK := Lib.hid ok
    have hE0 := ok.fev HL.out
    have FE := Lib.hid (fun (u : World) (hu : Below w.heap.size w u) => hE0.below hu)
    have hn300 : nn ≤ 300 := by rw [← HNN.out]; exact ok.len
    clear hg1 ok hE0
    have f0 : w1.cell? ⟨w.heap.size, 0, none⟩ = some (.string n1) := bX.blk.cell 0 rfl
    have f1 : w1.cell? ⟨w.heap.size, 1, none⟩ = some (.string n2) := bX.blk.cell 1 rfl
    by_cases h300 : 300 < n1.size + n2.size + s.size
    · have hd := decide_eq_true (show (300 : Int) < (n1.size : Int) + (n2.size : Int) + (s.size : Int) by omega)
      go_wp2_with fail
      refine (HW.out _).mono ?_
      rintro r wz ⟨rfl, hbz⟩
      go_wp2_with fail
      go_ret
      exact ⟨rfl, bt hb1 hbz⟩
    · have hd := decide_eq_false (show ¬ (300 : Int) < (n1.size : Int) + (n2.size : Int) + (s.size : Int) by omega)
      have hFA := fun (u : World) (hu : Below w.heap.size w u) => atom_Feed w.heap.size es (.slice a es.length cap) u (FE.out u hu)
      have hKA := fun (u : World) (hu : Below w.heap.size w u) => events_Kids w.heap.size es (.slice a es.length cap) 0 u (FE.out u hu).r (FE.out u hu).hB (by have := (FE.out u hu).n; omega) (FE.out u hu).z2
      rw [HNN.out] at hFA hKA
      have HFA := Lib.hid hFA
      have HKA := Lib.hid hKA
      clear hFA hKA
      go_wp2_with fail
      refine (HFA.out _ hb1).mono ?_
      rintro r w2 ⟨u1, rfl, hraw, hb2⟩
      replace bX := bX.below hb2 bX.lt
      replace hb2 := bt hb1 hb2
      clear hb1 f0 f1
      cases hI : isP es with
      | false =>
        obtain ⟨x1, rfl, hx1⟩ := hraw
        obtain ⟨pa, na, ca, rfl⟩ := hx1.form
        unfold rawC
        obtain ⟨R, hR⟩ : ∃ R, feedQ es = R := ⟨_, rfl⟩
        rw [hR]
        have hb3 := hb2.alloc hb2.size (.cells #[.int .i8 R.fmt, .string R.head.id, .string R.head.title, .string R.head.link, .string R.head.author, .string R.head.content, .string R.head.date, .int .i8 R.head.kind, .slice pa na ca] 50)
        have HB3 := Lib.hid hb3
        clear hb3 hR hI hd hx1
        go_wp2_with fail
        refine (HW.out _).mono ?_
        rintro r wz ⟨rfl, hbz⟩
        go_wp2_with fail
        go_ret
        exact ⟨rfl, bt HB3.out hbz⟩
      | true =>
        have HI := Lib.hid hI
        have hQ : (feedQ es).items.length = (namedP es 0 entryN).length := by rw [feedQ_t hI]; show (List.map _ _).length = _; rw [List.length_map]
        have hna : namedP es 0 entryN = (kidsP es 0).filter fun k => decide ((es[k]?).map Evt.n = some entryN) := rfl
        rw [hna] at hQ
        have hkm : ∀ x ∈ kidsP es 0, x < nn := fun x hx => by rw [← HNN.out]; exact kidsP_mem hx
        have hkl := kidsP_len es 0
        rw [HNN.out] at hkl
        have HINS := Lib.hid (fun (j k : Nat) (hk : (kidsP es 0)[j]? = some k) (hn : emB n2 = false) (hh : ((n1, n2) : NmT) ∉ headN) => items_ins s hI hk hn hh)
        obtain ⟨R, hR⟩ : ∃ R, feedQ es = R := ⟨_, rfl⟩
        rw [hR] at hraw hQ HINS
        obtain ⟨K, hK⟩ : ∃ K, kidsP es 0 = K := ⟨_, rfl⟩
        rw [hK] at HKA hkm hkl hQ HINS
        have HKM := Lib.hid hkm
        have HQ := Lib.hid hQ
        clear hI hna hR hK hkm hQ HFA
        obtain ⟨x1, rfl, hx1⟩ := hraw
        obtain ⟨pa, ca, rfl, -⟩ := CReads.of_own hx1
        have CX := CReads.of_own hx1
        have B1 := RowAt.new w2 #[.int .i8 R.fmt, .string R.head.id, .string R.head.title, .string R.head.link, .string R.head.author, .string R.head.content, .string R.head.date, .int .i8 R.head.kind, .slice pa R.items.length ca] 50
        have hb3 := hb2.alloc hb2.size (.cells #[.int .i8 R.fmt, .string R.head.id, .string R.head.title, .string R.head.link, .string R.head.author, .string R.head.content, .string R.head.date, .int .i8 R.head.kind, .slice pa R.items.length ca] 50)
        have hba : Below w2.heap.size w2 (w2.alloc (.cells #[.int .i8 R.fmt, .string R.head.id, .string R.head.title, .string R.head.link, .string R.head.author, .string R.head.content, .string R.head.date, .int .i8 R.head.kind, .slice pa R.items.length ca] 50)) := (Below.refl _ w2).alloc (Nat.le_refl _) _
        replace CX := (CX.below hba (Nat.le_refl _)).mono hba.size
        replace bX := bX.alloc (.cells #[.int .i8 R.fmt, .string R.head.id, .string R.head.title, .string R.head.link, .string R.head.author, .string R.head.content, .string R.head.date, .int .i8 R.head.kind, .slice pa R.items.length ca] 50)
        unfold rawC
        clear hd
        go_wp2_with fail
        generalize w2.alloc (.cells #[.int .i8 R.fmt, .string R.head.id, .string R.head.title, .string R.head.link, .string R.head.author, .string R.head.content, .string R.head.date, .int .i8 R.head.kind, .slice pa R.items.length ca] 50) = w3 at B1 hb3 CX bX ⊢
        generalize w2.heap.size = g1 at B1 ⊢
        clear hx1 hba hb2
        refine (HKA.out _ hb3).mono ?_
        rintro r w4 ⟨u, rfl, hrow, hb4⟩
        obtain ⟨ka, kc, rfl, -⟩ := kid_row hrow
        obtain ⟨m, hm⟩ : ∃ m, K.length = m := ⟨_, rfl⟩
        have HC := Lib.hid (kid_cells hrow)
        have HM := Lib.hid hm
        rw [hm] at hkl ⊢
        replace B1 := B1.below hb4 B1.lt
        replace bX := bX.below hb4 bX.lt
        replace CX := (CX.below hb4 (Nat.le_refl _)).mono hb4.size
        replace hb4 := bt hb3 hb4
        have HE1 := Lib.hid (FE.out _ hb4)
        have HN := Lib.hid atom_Name
        have HB1 := Lib.hid B1
        have HBX := Lib.hid bX
        have HCX := Lib.hid CX
        clear hrow hm HKA hb3 B1 bX CX
        go_wp2_with fail
        go_loopw [12, 13] (fun c q wr => ∃ j cn : Nat, q = .int .i64 j ∧ j ≤ m ∧ c = .int .i64 cn ∧ cn ≤ j ∧ Hid (((K.take j).filter fun k => decide ((es[k]?).map Evt.n = some entryN)).length = cn) ∧ Below w4.heap.size w4 wr) (fun _ q _ => m - (intOf q).toNat)
        case atStart => exact ⟨0, 0, rfl, by omega, rfl, Nat.le_refl _, Lib.hid rfl, Below.refl _ _⟩
        case round =>
          obtain ⟨j, cn, rfl, hj, rfl, hcn, HF, hb⟩ := hrel
          by_cases hlt : j < m
          · have hd := decide_eq_true (show (j : Int) < (m : Int) by omega)
            obtain ⟨x, hx⟩ : ∃ x, K[j]? = some x := ⟨_, List.getElem?_eq_getElem (by rw [HM.out]; exact hlt)⟩
            obtain ⟨g, rfl, k0⟩ := HC.out wr hb j x hx
            have hxn := HKM.out x (List.mem_of_getElem? hx)
            obtain ⟨y, hy⟩ : ∃ y, es[x]? = some y := ⟨_, List.getElem?_eq_getElem (by rw [HNN.out]; exact hxn)⟩
            have hst := count_step (P := fun k => decide ((es[k]?).map Evt.n = some entryN)) hx
            obtain ⟨b, off, rfl, k1, k2⟩ : ∃ b off, a = some ⟨b, off, none⟩ ∧ wr.cell? ⟨b, off + x * 5 + 1, none⟩ = some (.string y.n.1) ∧ wr.cell? ⟨b, off + x * 5 + 1 + 1, none⟩ = some (.string y.n.2) := by
              obtain ⟨b, off, cap', av, hv, hbB, -, k1, k2, -⟩ := HE1.out.r.get hb HE1.out.hB x y hy
              injection hv with hv
              rw [show off + x * 5 + 2 = off + x * 5 + 1 + 1 by omega] at k2
              exact ⟨b, off, hv, k1, k2⟩
            have cN := fun (d : Nat) (os : Array Obj) => CallsIn.regrown_of (callsIn_wide (n := 5).2 (HN.out ⟨#[101, 110, 116, 114, 121]⟩ (Go.Sort.grow (redrawn wr d) os)))
            by_cases hnn : y.n = entryN
            · rw [if_pos (by rw [hy]; simpa using hnn), HF.out] at hst
              have HST := Lib.hid hst
              rw [show y.n.1 = spA by rw [hnn]; rfl] at k1
              rw [show y.n.2 = ⟨#[101, 110, 116, 114, 121]⟩ by rw [hnn]; rfl] at k2
              have t1 := toL_self spA
              have t2 := toL_self ⟨#[101, 110, 116, 114, 121]⟩
              clear hst hx hy hnn
              go_wp2_with fail
              have c0 := cell_regrown k0
              have c1 := cell_regrown k1
              have c2 := cell_regrown k2
              refine (wpIn_wide (n := 6)).1 ?_
              refine wpIn_region_below_tail 9 (by kernel_rfl) (by kernel_rfl) (by kernel_rfl) ?_
              simp only [List.take_succ_cons, List.take_zero, List.drop_succ_cons, List.drop_zero]
              repeat (refine wpQuietIn_step (askedR (fun _ => trivial)) (fun K hK => ?_); go_simp; first | (refine hK _ ?_; clear hK K) | (apply Exists.intro; refine ⟨fun _ => ?_, hK _ ?_⟩; (first | exact cN _ _ | exact ⟨by decide, cN _ _⟩); clear hK K))
              clear c0 c1 c2 cN k0 k1 k2
              refine wpQuietIn_nil ?_
              rintro w6 ⟨⟨dq, osq⟩, hw6⟩
              have hb6 : Below wr.heap.size wr w6 := by rw [hw6]; exact below_regrown wr dq osq
              clear hw6
              have hc6 := hb.trans (hb6.mono hb.size)
              gi_wp2_with fail
              go_wp2_with fail
              exact ⟨⟨j + 1, cn + 1, by go_num, by omega, by go_num, by omega, Lib.hid HST.out, hc6⟩, by simp [intOf]; omega⟩
            · rw [if_neg (by rw [hy]; simpa using hnn), HF.out, Nat.add_zero] at hst
              have HST := Lib.hid hst
              have hn0 := nm_ne hnn
              clear hst hx hy hnn
              rcases hn0 with g1' | ⟨g1', g2'⟩
              all_goals
                rw [show entryN.1 = spA from rfl] at g1'
                try rw [show entryN.2.toList = [101, 110, 116, 114, 121] from by rw [ByteArray.toList_eq]; rfl] at g2'
                go_wp2_with fail
                have c0 := cell_regrown k0
                have c1 := cell_regrown k1
                have c2 := cell_regrown k2
                refine (wpIn_wide (n := 6)).1 ?_
                refine wpIn_region_below_tail 9 (by kernel_rfl) (by kernel_rfl) (by kernel_rfl) ?_
                simp only [List.take_succ_cons, List.take_zero, List.drop_succ_cons, List.drop_zero]
                repeat (refine wpQuietIn_step (askedR (fun _ => trivial)) (fun K hK => ?_); go_simp; first | (refine hK _ ?_; clear hK K) | (apply Exists.intro; refine ⟨fun _ => ?_, hK _ ?_⟩; (first | exact cN _ _ | exact ⟨by decide, cN _ _⟩); clear hK K))
                clear c0 c1 c2 cN k0 k1 k2
                refine wpQuietIn_nil ?_
                rintro w6 ⟨⟨dq, osq⟩, hw6⟩
                have hb6 : Below wr.heap.size wr w6 := by rw [hw6]; exact below_regrown wr dq osq
                clear hw6
                have hc6 := hb.trans (hb6.mono hb.size)
                gi_wp2_with fail
                go_wp2_with fail
                exact ⟨⟨j + 1, cn, by go_num, by omega, rfl, by omega, Lib.hid HST.out, hc6⟩, by simp [intOf]; omega⟩
          · have hd := decide_eq_false (show ¬ (j : Int) < (m : Int) by omega)
            have hcn2 : R.items.length = cn := by
              have h1 := HF.out
              rw [List.take_of_length_le (by rw [HM.out]; omega)] at h1
              rw [HQ.out, h1]
            have hbr := bt hb4 hb
            have x8 : wr.cell? ⟨g1, 8, none⟩ = some (.slice pa cn ca) := by rw [← hcn2]; exact (HB1.out.below hb HB1.out.lt).blk.cell 8 rfl
            have HCN := Lib.hid hcn2
            clear hcn2 hd
            by_cases hm0 : m = 0
            · have hd := decide_eq_false (show ¬ (j : Int) < (m : Int) by omega)
              subst hm0
              go_wp2_with fail
              refine (HW.out _).mono ?_
              rintro r wz ⟨rfl, hbz⟩
              go_wp2_with fail
              go_ret
              exact ⟨rfl, bt hbr hbz⟩
            · have hd := decide_eq_false (show ¬ (j : Int) < (m : Int) by omega)
              have hd2 : ((m : Int) == 0) = false := by simpa using hm0
              go_wp2_with fail
              have bKN := RowAt.new wr #[.string ⟨#[105, 100]⟩, .string ⟨#[116, 105, 116, 108, 101]⟩, .string ⟨#[108, 105, 110, 107]⟩, .string ⟨#[117, 112, 100, 97, 116, 101, 100]⟩, .string ⟨#[97, 117, 116, 104, 111, 114]⟩, .string ⟨#[101, 110, 116, 114, 121]⟩] 9
              have hba : Below wr.heap.size wr (wr.alloc (.cells #[.string ⟨#[105, 100]⟩, .string ⟨#[116, 105, 116, 108, 101]⟩, .string ⟨#[108, 105, 110, 107]⟩, .string ⟨#[117, 112, 100, 97, 116, 101, 100]⟩, .string ⟨#[97, 117, 116, 104, 111, 114]⟩, .string ⟨#[101, 110, 116, 114, 121]⟩] 9)) := (Below.refl _ wr).alloc (Nat.le_refl _) _
              have hb5 := hb.trans (hba.mono hb.size)
              generalize wr.alloc (.cells #[.string ⟨#[105, 100]⟩, .string ⟨#[116, 105, 116, 108, 101]⟩, .string ⟨#[108, 105, 110, 107]⟩, .string ⟨#[117, 112, 100, 97, 116, 101, 100]⟩, .string ⟨#[97, 117, 116, 104, 111, 114]⟩, .string ⟨#[101, 110, 116, 114, 121]⟩] 9) = w5 at bKN hb5 ⊢
              generalize wr.heap.size = kb at bKN ⊢
              have KN := Lib.hid bKN
              have HX := Lib.hid (HBX.out.below hb5 HBX.out.lt)
              have HFT := Lib.hid hcn
              clear hba hb hbr x8 bKN hd hd2 hcn HF hlt
              go_loopw [15] (fun q wx => ∃ k : Nat, q = .int .i64 k ∧ k ≤ 6 ∧ (∀ nm ∈ knownN.take k, ((n1, n2) : NmT) ≠ (spA, nm)) ∧ Below w5.heap.size w5 wx) (fun q _ => 6 - (intOf q).toNat)
              case atStart => exact ⟨0, rfl, by omega, fun nm h => (by cases h), Below.refl _ _⟩
              case round =>
                obtain ⟨k, rfl, hk, hne, hbx⟩ := hrel
                by_cases hlt : k < 6
                · have hd := decide_eq_true (show (k : Int) < (6 : Int) by omega)
                  have hbi : (k : Int) < 6 := by omega
                  have hbi0 : (0 : Int) ≤ (k : Int) := by omega
                  obtain ⟨nm, hnm⟩ : ∃ nm, knownN[k]? = some nm := ⟨_, List.getElem?_eq_getElem (by show k < 6; exact hlt)⟩
                  have kc0 : wr.cell? ⟨kb, k, none⟩ = some (.string nm) := (KN.out.below hbx KN.out.lt).blk.cell k (known_at hnm)
                  have k1 : wr.cell? ⟨w.heap.size, 0, none⟩ = some (.string n1) := (HX.out.below hbx HX.out.lt).blk.cell 0 rfl
                  have k2 : wr.cell? ⟨w.heap.size, 1, none⟩ = some (.string n2) := (HX.out.below hbx HX.out.lt).blk.cell 1 rfl
                  have cN := fun (d : Nat) (os : Array Obj) => CallsIn.regrown_of (callsIn_wide (n := 5).2 (HN.out nm (Go.Sort.grow (redrawn wr d) os)))
                  by_cases heq : ((n1, n2) : NmT) = (spA, nm)
                  · have e1 : n1 = spA := congrArg Prod.fst heq
                    have e2 : n2 = nm := congrArg Prod.snd heq
                    rw [e1] at k1
                    rw [e2] at k2
                    have t1 := toL_self spA
                    have t2 := toL_self nm
                    clear e1 e2 heq hne hnm
                    go_wp2_with fail
                    have c_k1 := cell_regrown k1
                    have c_k2 := cell_regrown k2
                    have c_kc0 := cell_regrown kc0
                    refine (wpIn_wide (n := 6)).1 ?_
                    refine wpIn_region_below_tail 6 (by kernel_rfl) (by kernel_rfl) (by kernel_rfl) ?_
                    simp only [List.take_succ_cons, List.take_zero, List.drop_succ_cons, List.drop_zero]
                    repeat (refine wpQuietIn_step (askedR (fun _ => trivial)) (fun K hK => ?_); go_simp; first | (refine hK _ ?_; clear hK K) | (apply Exists.intro; refine ⟨fun _ => ?_, hK _ ?_⟩; (first | exact cN _ _ | exact ⟨by decide, cN _ _⟩); clear hK K))
                    clear c_k1 c_k2 c_kc0 cN k1 k2 kc0
                    refine wpQuietIn_nil ?_
                    rintro w6 ⟨⟨dq, osq⟩, hw6⟩
                    have hb6 : Below wr.heap.size wr w6 := by rw [hw6]; exact below_regrown wr dq osq
                    clear hw6
                    have hc6 := hbx.trans (hb6.mono hbx.size)
                    gi_wp2_with fail
                    go_wp2_with fail
                    refine (HW.out _).mono ?_
                    rintro r wz ⟨rfl, hbz⟩
                    go_wp2_with fail
                    go_ret
                    exact ⟨rfl, bt (bt hb4 (hb5.trans (hc6.mono hb5.size))) hbz⟩
                  · have HNE := Lib.hid (show ∀ nm' ∈ knownN.take (k + 1), ((n1, n2) : NmT) ≠ (spA, nm') by
                      intro nm' hm'
                      rw [List.take_add_one, hnm] at hm'
                      rcases List.mem_append.1 hm' with h | h
                      · exact hne nm' h
                      · rw [show nm' = nm by simpa using h]; exact heq)
                    have hq := nm_ne heq
                    clear hne hnm heq
                    rcases hq with g1' | ⟨g1', g2'⟩
                    all_goals
                      go_wp2_with fail
                      have c_k1 := cell_regrown k1
                      have c_k2 := cell_regrown k2
                      have c_kc0 := cell_regrown kc0
                      refine (wpIn_wide (n := 6)).1 ?_
                      refine wpIn_region_below_tail 6 (by kernel_rfl) (by kernel_rfl) (by kernel_rfl) ?_
                      simp only [List.take_succ_cons, List.take_zero, List.drop_succ_cons, List.drop_zero]
                      repeat (refine wpQuietIn_step (askedR (fun _ => trivial)) (fun K hK => ?_); go_simp; first | (refine hK _ ?_; clear hK K) | (apply Exists.intro; refine ⟨fun _ => ?_, hK _ ?_⟩; (first | exact cN _ _ | exact ⟨by decide, cN _ _⟩); clear hK K))
                      clear c_k1 c_k2 c_kc0 cN k1 k2 kc0
                      refine wpQuietIn_nil ?_
                      rintro w6 ⟨⟨dq, osq⟩, hw6⟩
                      have hb6 : Below wr.heap.size wr w6 := by rw [hw6]; exact below_regrown wr dq osq
                      clear hw6
                      have hc6 := hbx.trans (hb6.mono hbx.size)
                      gi_wp2_with fail
                      go_wp2_with fail
                      exact ⟨⟨k + 1, by go_num, by omega, HNE.out, hc6⟩, by simp [intOf]; omega⟩
                · have hd := decide_eq_false (show ¬ (k : Int) < (6 : Int) by omega)
                  have HNE := Lib.hid (show ∀ nm ∈ knownN, ((n1, n2) : NmT) ≠ (spA, nm) by rw [List.take_of_length_le (by show 6 ≤ k; omega)] at hne; exact hne)
                  have hbA := bt hb4 (hb5.trans (hbx.mono hb5.size))
                  have k1 : wr.cell? ⟨w.heap.size, 0, none⟩ = some (.string n1) := (HX.out.below hbx HX.out.lt).blk.cell 0 rfl
                  have k2 : wr.cell? ⟨w.heap.size, 1, none⟩ = some (.string n2) := (HX.out.below hbx HX.out.lt).blk.cell 1 rfl
                  have HCo := Lib.hid atom_Core
                  clear hne
                  go_wp2_with fail
                  by_cases heq : ((n1, n2) : NmT) = (spC, ⟨#[100, 97, 116, 101]⟩)
                  · have e1 : n1 = spC := congrArg Prod.fst heq
                    have e2 : n2 = ⟨#[100, 97, 116, 101]⟩ := congrArg Prod.snd heq
                    rw [e1] at k1
                    rw [e2] at k2
                    have t1 := toL_self spC
                    have t2 := toL_self ⟨#[100, 97, 116, 101]⟩
                    have cN := fun (d : Nat) (os : Array Obj) => CallsIn.regrown_of (callsIn_wide (n := 5).2 (HCo.out ⟨#[100, 97, 116, 101]⟩ (Go.Sort.grow (redrawn wr d) os)))
                    clear e1 e2 heq hd
                    have c_k1 := cell_regrown k1
                    have c_k2 := cell_regrown k2
                    refine (wpIn_wide (n := 6)).1 ?_
                    refine wpIn_region_below_tail 7 (by kernel_rfl) (by kernel_rfl) (by kernel_rfl) ?_
                    simp only [List.take_succ_cons, List.take_zero, List.drop_succ_cons, List.drop_zero]
                    repeat (refine wpQuietIn_step (askedR (fun _ => trivial)) (fun K hK => ?_); go_simp; first | (refine hK _ ?_; clear hK K) | (apply Exists.intro; refine ⟨fun _ => ?_, hK _ ?_⟩; (first | exact cN _ _ | exact ⟨by decide, cN _ _⟩); clear hK K))
                    clear c_k1 c_k2 cN k1 k2
                    refine wpQuietIn_nil ?_
                    rintro w6 ⟨⟨dq, osq⟩, hw6⟩
                    have hb6 : Below wr.heap.size wr w6 := by rw [hw6]; exact below_regrown wr dq osq
                    clear hw6
                    have hc6 := hbx.trans (hb6.mono hbx.size)
                    gi_wp2_with fail
                    go_wp2_with fail
                    refine (HW.out _).mono ?_
                    rintro r wz ⟨rfl, hbz⟩
                    go_wp2_with fail
                    go_ret
                    exact ⟨rfl, bt (bt hb4 (hb5.trans (hc6.mono hb5.size))) hbz⟩
                  · have HND := Lib.hid heq
                    have hq := nm_ne heq
                    rw [show ((spC, ⟨#[100, 97, 116, 101]⟩) : NmT).1 = spC from rfl, show ((spC, ⟨#[100, 97, 116, 101]⟩) : NmT).2.toList = [100, 97, 116, 101] from by rw [ByteArray.toList_eq]] at hq
                    obtain ⟨eb, heb⟩ : ∃ b, emB n2 = b := ⟨_, rfl⟩
                    have q0 : (n2.toList == []) = eb := by rw [emB_eq]; exact heb
                    have HEB := Lib.hid heb
                    clear heq hd heb
                    go_cut [104] (fun x wx => x = .bool eb ∧ Below w5.heap.size w5 wx)
                    case first =>
                      have cN := fun (d : Nat) (os : Array Obj) => CallsIn.regrown_of (callsIn_wide (n := 5).2 (HCo.out ⟨#[100, 97, 116, 101]⟩ (Go.Sort.grow (redrawn wr d) os)))
                      rcases hq with g1' | ⟨g1', g2'⟩
                      all_goals
                        have c_k1 := cell_regrown k1
                        have c_k2 := cell_regrown k2
                        refine (wpIn_wide (n := 6)).1 ?_
                        refine wpIn_region_below_tail 7 (by kernel_rfl) (by kernel_rfl) (by kernel_rfl) ?_
                        simp only [List.take_succ_cons, List.take_zero, List.drop_succ_cons, List.drop_zero]
                        repeat (refine wpQuietIn_step (askedR (fun _ => trivial)) (fun K hK => ?_); go_simp; first | (refine hK _ ?_; clear hK K) | (apply Exists.intro; refine ⟨fun _ => ?_, hK _ ?_⟩; (first | exact cN _ _ | exact ⟨by decide, cN _ _⟩); clear hK K))
                        clear c_k1 c_k2 cN k1 k2
                        refine wpQuietIn_nil ?_
                        rintro w6 ⟨⟨dq, osq⟩, hw6⟩
                        have hb6 : Below wr.heap.size wr w6 := by rw [hw6]; exact below_regrown wr dq osq
                        clear hw6
                        have hc6 := hbx.trans (hb6.mono hbx.size)
                        gi_wp2_with fail
                        go_wp2_with fail
                        go_meet
                        exact ⟨rfl, hc6⟩
                    case rest =>
                      obtain ⟨rfl, hbx2⟩ := hcut
                      have hbx2' := hb5.trans (hbx2.mono hb5.size)
                      have hbB := bt hb4 (hb5.trans (hbx2.mono hb5.size))
                      clear k1 k2 q0 hbA
                      cases eb with
                      | true =>
                        go_wp2_with fail
                        refine (HW.out _).mono ?_
                        rintro r wz ⟨rfl, hbz⟩
                        go_wp2_with fail
                        go_ret
                        exact ⟨rfl, bt hbB hbz⟩
                      | false =>
                        have hm1 : 0 < m := by omega
                        obtain ⟨jx, hjm, hjx⟩ := rem_in i m hm1 (by omega)
                        have HJX := Lib.hid hjx
                        clear hjx
                        obtain ⟨k', hkx⟩ : ∃ x, K[jx]? = some x := ⟨_, List.getElem?_eq_getElem (by rw [HM.out]; exact hjm)⟩
                        have hK0 := HINS.out jx k' hkx HEB.out (not_head HNE.out HND.out)
                        obtain ⟨hF1, hF2, hk0, hkl2⟩ := hK0
                        have hk9 := HKM.out k' (List.mem_of_getElem? hkx)
                        obtain ⟨g, rfl, kcell⟩ := HC.out wc hbx2' jx k' hkx
                        obtain ⟨x0, hx0⟩ : ∃ x, es[0]? = some x := ⟨_, List.getElem?_eq_getElem (by rw [HNN.out]; omega)⟩
                        have hjx := HJX.out
                        go_upto_region 24 with fail
                        clear hjx HJX
                        have hEc := FE.out wc hbB
                        obtain ⟨b, off, rfl⟩ : ∃ b off, a = some ⟨b, off, none⟩ := by
                          obtain ⟨b, off, cap', av, hv, -⟩ := hEc.r.get (Below.refl _ wc) hEc.hB 0 x0 hx0
                          injection hv with hv
                          exact ⟨b, off, hv⟩
                        have hcap := hEc.c
                        obtain ⟨ad, cp, hcv, hc1, hc2⟩ := hcap
                        have hcp : cp = cap := by injection hcv with h1 h2 h3; exact h3.symm
                        rw [hcp, HNN.out] at hc1
                        rw [hcp] at hc2
                        clear hcv hcp
                        unfold maxLen at hc2
                        have hbs : w.heap.size ≤ wc.heap.size := hbB.size
                        have O0 := OwnE.lit (B := w.heap.size) (base := wc.heap.size) (w := wc) (es := []) [] #[] rfl trivial (Nat.le_refl _) 0 rfl (by decide)
                        have hbL := (Below.refl wc.heap.size wc).alloc (Nat.le_refl _) (.cells #[] 30)
                        have hs1 := hEc.r.sub (n := es.length) 0 k' cap (by omega)
                        rw [List.drop_zero, Nat.zero_mul, Nat.add_zero] at hs1
                        have htk : (es.take k').length = k' := by rw [List.length_take, HNN.out]; omega
                        obtain ⟨v1, w7, hr1, O1, hb7⟩ := O0.apps (hs1.below hbL hbs) hbs hbL.size (by rw [htk]; simp; omega)
                        have hb7 := hbL.trans hb7
                        have hl1 : ([] ++ es.take k').length = k' := by rw [List.nil_append]; exact htk
                        obtain ⟨v2, w8, hr2, O2, hb8⟩ := O1.app1 (evS (n1, n2) []) (.slice none 0 0) (nilC _ _) hbs hb7.size (by rw [hl1]; omega)
                        have hb8 := hb7.trans hb8
                        have hl2 : ([] ++ es.take k' ++ [evS (n1, n2) []]).length = k' + 1 := by rw [List.length_append, hl1]; rfl
                        obtain ⟨a1, m1, c1, hv1⟩ : ∃ a l c, v1 = .slice a l c := by obtain ⟨avs, h1, -⟩ := O1; exact own_slice h1
                        obtain ⟨a2, m2, c2, hv2⟩ : ∃ a l c, v2 = .slice a l c := by obtain ⟨avs, h1, -⟩ := O2; exact own_slice h1
                        subst hv1
                        subst hv2
                        have hsN := HX.out.below hbx2 HX.out.lt
                        have hxlt : w.heap.size < wc.heap.size := hsN.lt
                        have p7 := hsN.below hb7 hxlt
                        have k1 : w7.cell? ⟨w.heap.size, 0, none⟩ = some (.string n1) := p7.blk.cell 0 rfl
                        have k2 : w7.cell? ⟨w.heap.size, 1, none⟩ = some (.string n2) := p7.blk.cell 1 rfl
                        have p8 := hsN.below hb8 hxlt
                        have hdl : (es.drop k').length = nn - k' := by rw [List.length_drop, HNN.out]
                        have HR1 := Lib.hid hr1
                        have HR2 := Lib.hid hr2
                        have hd2 : k' < cap := by omega
                        cases hse : emB s with
                        | true =>
                          have e2 : s.toList = [] := by unfold emB at hse; simpa using hse
                          have e3 : (!s.toList.isEmpty) = false := by rw [e2]; rfl
                          have e4 : True := trivial
                          have O3 := O2
                          have hb9 := hb8
                          have hl3 := hl2
                          have hM : es.take k' ++ flT (elT (n1, n2) s) ++ es.drop k' = [] ++ es.take k' ++ [evS (n1, n2) []] ++ [evE (n1, n2)] ++ es.drop k' := by rw [elT_t hse]; simp
                          have p9 := hsN.below hb8 hxlt
                          have k3 : w8.cell? ⟨w.heap.size, 0, none⟩ = some (.string n1) := p9.blk.cell 0 rfl
                          have k4 : w8.cell? ⟨w.heap.size, 1, none⟩ = some (.string n2) := p9.blk.cell 1 rfl
                          obtain ⟨v4, w10, hr4, O4, hb10⟩ := O2.app1 (evE (n1, n2)) (.slice none 0 0) (nilC _ _) hbs hb8.size (by rw [hl2]; omega)
                          have hb10 := hb8.trans hb10
                          obtain ⟨a4, m4, c4, hv4⟩ : ∃ a l c, v4 = .slice a l c := by obtain ⟨avs, h1, -⟩ := O4; exact own_slice h1
                          subst hv4
                          have hs2 := (FE.out w10 (hbB.trans (hb10.mono hbs))).r.sub (n := es.length) k' (nn - k') (cap - k') (by rw [HNN.out]; omega)
                          rw [List.take_of_length_le (by rw [hdl]; exact Nat.le_refl _)] at hs2
                          obtain ⟨v5, w11, hr5, O5, hb11⟩ := O4.apps hs2 hbs hb10.size (by rw [List.length_append, hl2, hdl]; simp; omega)
                          have hb11 := hb10.trans hb11
                          obtain ⟨a5, m5, c5, hv5⟩ : ∃ a l c, v5 = .slice a l c := by obtain ⟨avs, h1, -⟩ := O5; exact own_slice h1
                          subst hv5
                          rw [← hM] at O5
                          have HR4 := Lib.hid hr4
                          have HR5 := Lib.hid hr5
                          have hsz := ins_sizes (n := (n1, n2)) (k := k') OK.out (show s.size ≤ 300 by omega)
                          obtain ⟨M, hMM⟩ : ∃ M, es.take k' ++ flT (elT (n1, n2) s) ++ es.drop k' = M := ⟨_, rfl⟩
                          rw [hMM] at O5 hF1 hF2 hsz
                          have hE5 : FEv w11.heap.size M (.slice a5 m5 c5) w11 := ⟨O5.reads (Nat.le_trans hbs hb11.size), Nat.le_refl _, by omega, hsz.2.1, hsz.2.2, O5.cap⟩
                          have hFD := atom_Feed w11.heap.size M (.slice a5 m5 c5) w11 hE5
                          rw [hF1, hF2] at hFD
                          have HFD := Lib.hid hFD
                          have hbc := hbx2'.trans (hb11.mono hbx2'.size)
                          have HBC := Lib.hid hbc
                          have HBW := Lib.hid (hbB.trans (hb11.mono hbs))
                          have HSM := Lib.hid (fun (x y : Value) (u : World) (hx : CReads u.heap.size u x R.items.length (itsC R.items)) (hy : CReads u.heap.size u y R.items.length (itsC R.items)) => ref24_Same R x y u hx hy (by rw [HCN.out]; have := HFT.out; omega))
                          clear hFD hE5 hsz hF1 hF2 hMM hM O0 O1 O2 O3 O4 O5 hr1 hr2 hr4 hr5 hs1 hs2 hbL hb7 hb8 hb9 hb10 hb11 hbc p7 p8 p9 hsN HINS hx0 hEc htk hl1 hl2 hl3 hdl hse hkx HCN
                          go_upto_region 25 with (at_builtin; refine wpList_append_run rfl _ _ _ _ rfl _ _ rfl rfl _ _ HR1.out ?_; clear HR1)
                          go_upto_region 26 with (at_builtin; refine wpList_append_run rfl _ _ _ _ rfl _ _ rfl rfl _ _ HR2.out ?_; clear HR2)
                          go_upto_region 28 with fail
                          go_upto_region 29 with (at_builtin; refine wpList_append_run rfl _ _ _ _ rfl _ _ rfl rfl _ _ HR4.out ?_; clear HR4)
                          go_upto_region 30 with (at_builtin; refine wpList_append_run rfl _ _ _ _ rfl _ _ rfl rfl _ _ HR5.out ?_; clear HR5)
                          go_wp2_with fail
                          refine (HFD.out).mono ?_
                          rintro r w12 ⟨u2, rfl, ⟨x2, rfl, hx2⟩, hb12⟩
                          have CY := CReads.of_own hx2
                          obtain ⟨pb, nb, cb, rfl⟩ := hx2.form
                          have hbc := HBC.out.trans (hb12.mono HBC.out.size)
                          have hbw := HBW.out.trans (hb12.mono HBW.out.size)
                          have B1 := HB1.out.below hbc HB1.out.lt
                          have CX := (HCX.out.below hbc (Nat.le_refl _)).mono hbc.size
                          have B2 := RowAt.new w12 #[.int .i8 R.fmt, .string R.head.id, .string R.head.title, .string R.head.link, .string R.head.author, .string R.head.content, .string R.head.date, .int .i8 R.head.kind, .slice pb nb cb] 50
                          replace B1 := B1.alloc (.cells #[.int .i8 R.fmt, .string R.head.id, .string R.head.title, .string R.head.link, .string R.head.author, .string R.head.content, .string R.head.date, .int .i8 R.head.kind, .slice pb nb cb] 50)
                          have hba : Below w12.heap.size w12 (w12.alloc (.cells #[.int .i8 R.fmt, .string R.head.id, .string R.head.title, .string R.head.link, .string R.head.author, .string R.head.content, .string R.head.date, .int .i8 R.head.kind, .slice pb nb cb] 50)) := (Below.refl _ w12).alloc (Nat.le_refl _) _
                          replace CX := (CX.below hba (Nat.le_refl _)).mono hba.size
                          replace CY := (CY.below hba (Nat.le_refl _)).mono hba.size
                          have hb13 := bt hbw hba
                          have x0 : (w12.alloc (.cells #[.int .i8 R.fmt, .string R.head.id, .string R.head.title, .string R.head.link, .string R.head.author, .string R.head.content, .string R.head.date, .int .i8 R.head.kind, .slice pb nb cb] 50)).cell? ⟨g1, 0, none⟩ = some (.int .i8 R.fmt) := B1.blk.cell 0 rfl
                          have x1 : (w12.alloc (.cells #[.int .i8 R.fmt, .string R.head.id, .string R.head.title, .string R.head.link, .string R.head.author, .string R.head.content, .string R.head.date, .int .i8 R.head.kind, .slice pb nb cb] 50)).cell? ⟨g1, 1, none⟩ = some (.string R.head.id) := B1.blk.cell 1 rfl
                          have x2 : (w12.alloc (.cells #[.int .i8 R.fmt, .string R.head.id, .string R.head.title, .string R.head.link, .string R.head.author, .string R.head.content, .string R.head.date, .int .i8 R.head.kind, .slice pb nb cb] 50)).cell? ⟨g1, 2, none⟩ = some (.string R.head.title) := B1.blk.cell 2 rfl
                          have x3 : (w12.alloc (.cells #[.int .i8 R.fmt, .string R.head.id, .string R.head.title, .string R.head.link, .string R.head.author, .string R.head.content, .string R.head.date, .int .i8 R.head.kind, .slice pb nb cb] 50)).cell? ⟨g1, 3, none⟩ = some (.string R.head.link) := B1.blk.cell 3 rfl
                          have x4 : (w12.alloc (.cells #[.int .i8 R.fmt, .string R.head.id, .string R.head.title, .string R.head.link, .string R.head.author, .string R.head.content, .string R.head.date, .int .i8 R.head.kind, .slice pb nb cb] 50)).cell? ⟨g1, 4, none⟩ = some (.string R.head.author) := B1.blk.cell 4 rfl
                          have x5 : (w12.alloc (.cells #[.int .i8 R.fmt, .string R.head.id, .string R.head.title, .string R.head.link, .string R.head.author, .string R.head.content, .string R.head.date, .int .i8 R.head.kind, .slice pb nb cb] 50)).cell? ⟨g1, 5, none⟩ = some (.string R.head.content) := B1.blk.cell 5 rfl
                          have x6 : (w12.alloc (.cells #[.int .i8 R.fmt, .string R.head.id, .string R.head.title, .string R.head.link, .string R.head.author, .string R.head.content, .string R.head.date, .int .i8 R.head.kind, .slice pb nb cb] 50)).cell? ⟨g1, 6, none⟩ = some (.string R.head.date) := B1.blk.cell 6 rfl
                          have x7 : (w12.alloc (.cells #[.int .i8 R.fmt, .string R.head.id, .string R.head.title, .string R.head.link, .string R.head.author, .string R.head.content, .string R.head.date, .int .i8 R.head.kind, .slice pb nb cb] 50)).cell? ⟨g1, 7, none⟩ = some (.int .i8 R.head.kind) := B1.blk.cell 7 rfl
                          have x8 : (w12.alloc (.cells #[.int .i8 R.fmt, .string R.head.id, .string R.head.title, .string R.head.link, .string R.head.author, .string R.head.content, .string R.head.date, .int .i8 R.head.kind, .slice pb nb cb] 50)).cell? ⟨g1, 8, none⟩ = some (.slice pa R.items.length ca) := B1.blk.cell 8 rfl
                          have HSM2 := Lib.hid (HSM.out _ _ _ CY CX)
                          have HB13 := Lib.hid hb13
                          clear HSM CX CY B1 B2 hx2 hba hbc hbw hb12 hb13 k1 k2 k3 k4 kcell
                          unfold rawC
                          go_wp2_with fail
                          refine (HSM2.out).mono ?_
                          rintro r w14 ⟨rfl, hb14⟩
                          have hb14 := bt HB13.out hb14
                          clear x0 x1 x2 x3 x4 x5 x6 x7 x8
                          go_wp2_with fail
                          refine (HW.out _).mono ?_
                          rintro r wz ⟨rfl, hbz⟩
                          go_wp2_with fail
                          go_ret
                          exact ⟨rfl, bt hb14 hbz⟩
                        | false =>
                          have e2 : ¬ s.toList = [] := by unfold emB at hse; simpa using hse
                          have e3 : (!s.toList.isEmpty) = true := by simpa using e2
                          obtain ⟨v3, w9, hr3, O3, hb9⟩ := O2.app1 (evT s) (.slice none 0 0) (nilC _ _) hbs hb8.size (by rw [hl2]; omega)
                          have hb9 := hb8.trans hb9
                          have hl3 : ([] ++ es.take k' ++ [evS (n1, n2) []] ++ [evT s]).length = k' + 2 := by rw [List.length_append, hl2]; rfl
                          obtain ⟨a3, m3, c3, hv3⟩ : ∃ a l c, v3 = .slice a l c := by obtain ⟨avs, h1, -⟩ := O3; exact own_slice h1
                          subst hv3
                          have HR3 := Lib.hid hr3
                          have hM : es.take k' ++ flT (elT (n1, n2) s) ++ es.drop k' = [] ++ es.take k' ++ [evS (n1, n2) []] ++ [evT s] ++ [evE (n1, n2)] ++ es.drop k' := by rw [elT_f hse]; simp
                          have p9 := hsN.below hb9 hxlt
                          have k3 : w9.cell? ⟨w.heap.size, 0, none⟩ = some (.string n1) := p9.blk.cell 0 rfl
                          have k4 : w9.cell? ⟨w.heap.size, 1, none⟩ = some (.string n2) := p9.blk.cell 1 rfl
                          obtain ⟨v4, w10, hr4, O4, hb10⟩ := O3.app1 (evE (n1, n2)) (.slice none 0 0) (nilC _ _) hbs hb9.size (by rw [hl3]; omega)
                          have hb10 := hb9.trans hb10
                          obtain ⟨a4, m4, c4, hv4⟩ : ∃ a l c, v4 = .slice a l c := by obtain ⟨avs, h1, -⟩ := O4; exact own_slice h1
                          subst hv4
                          have hs2 := (FE.out w10 (hbB.trans (hb10.mono hbs))).r.sub (n := es.length) k' (nn - k') (cap - k') (by rw [HNN.out]; omega)
                          rw [List.take_of_length_le (by rw [hdl]; exact Nat.le_refl _)] at hs2
                          obtain ⟨v5, w11, hr5, O5, hb11⟩ := O4.apps hs2 hbs hb10.size (by rw [List.length_append, hl3, hdl]; simp; omega)
                          have hb11 := hb10.trans hb11
                          obtain ⟨a5, m5, c5, hv5⟩ : ∃ a l c, v5 = .slice a l c := by obtain ⟨avs, h1, -⟩ := O5; exact own_slice h1
                          subst hv5
                          rw [← hM] at O5
                          have HR4 := Lib.hid hr4
                          have HR5 := Lib.hid hr5
                          have hsz := ins_sizes (n := (n1, n2)) (k := k') OK.out (show s.size ≤ 300 by omega)
                          obtain ⟨M, hMM⟩ : ∃ M, es.take k' ++ flT (elT (n1, n2) s) ++ es.drop k' = M := ⟨_, rfl⟩
                          rw [hMM] at O5 hF1 hF2 hsz
                          have hE5 : FEv w11.heap.size M (.slice a5 m5 c5) w11 := ⟨O5.reads (Nat.le_trans hbs hb11.size), Nat.le_refl _, by omega, hsz.2.1, hsz.2.2, O5.cap⟩
                          have hFD := atom_Feed w11.heap.size M (.slice a5 m5 c5) w11 hE5
                          rw [hF1, hF2] at hFD
                          have HFD := Lib.hid hFD
                          have hbc := hbx2'.trans (hb11.mono hbx2'.size)
                          have HBC := Lib.hid hbc
                          have HBW := Lib.hid (hbB.trans (hb11.mono hbs))
                          have HSM := Lib.hid (fun (x y : Value) (u : World) (hx : CReads u.heap.size u x R.items.length (itsC R.items)) (hy : CReads u.heap.size u y R.items.length (itsC R.items)) => ref24_Same R x y u hx hy (by rw [HCN.out]; have := HFT.out; omega))
                          clear hFD hE5 hsz hF1 hF2 hMM hM O0 O1 O2 O3 O4 O5 hr1 hr2 hr3 hr4 hr5 hs1 hs2 hbL hb7 hb8 hb9 hb10 hb11 hbc p7 p8 p9 hsN HINS hx0 hEc htk hl1 hl2 hl3 hdl hse hkx HCN
                          go_upto_region 25 with (at_builtin; refine wpList_append_run rfl _ _ _ _ rfl _ _ rfl rfl _ _ HR1.out ?_; clear HR1)
                          go_upto_region 26 with (at_builtin; refine wpList_append_run rfl _ _ _ _ rfl _ _ rfl rfl _ _ HR2.out ?_; clear HR2)
                          go_upto_region 28 with (at_builtin; refine wpList_append_run rfl _ _ _ _ rfl _ _ rfl rfl _ _ HR3.out ?_; clear HR3)
                          go_upto_region 29 with (at_builtin; refine wpList_append_run rfl _ _ _ _ rfl _ _ rfl rfl _ _ HR4.out ?_; clear HR4)
                          go_upto_region 30 with (at_builtin; refine wpList_append_run rfl _ _ _ _ rfl _ _ rfl rfl _ _ HR5.out ?_; clear HR5)
                          go_wp2_with fail
                          refine (HFD.out).mono ?_
                          rintro r w12 ⟨u2, rfl, ⟨x2, rfl, hx2⟩, hb12⟩
                          have CY := CReads.of_own hx2
                          obtain ⟨pb, nb, cb, rfl⟩ := hx2.form
                          have hbc := HBC.out.trans (hb12.mono HBC.out.size)
                          have hbw := HBW.out.trans (hb12.mono HBW.out.size)
                          have B1 := HB1.out.below hbc HB1.out.lt
                          have CX := (HCX.out.below hbc (Nat.le_refl _)).mono hbc.size
                          have B2 := RowAt.new w12 #[.int .i8 R.fmt, .string R.head.id, .string R.head.title, .string R.head.link, .string R.head.author, .string R.head.content, .string R.head.date, .int .i8 R.head.kind, .slice pb nb cb] 50
                          replace B1 := B1.alloc (.cells #[.int .i8 R.fmt, .string R.head.id, .string R.head.title, .string R.head.link, .string R.head.author, .string R.head.content, .string R.head.date, .int .i8 R.head.kind, .slice pb nb cb] 50)
                          have hba : Below w12.heap.size w12 (w12.alloc (.cells #[.int .i8 R.fmt, .string R.head.id, .string R.head.title, .string R.head.link, .string R.head.author, .string R.head.content, .string R.head.date, .int .i8 R.head.kind, .slice pb nb cb] 50)) := (Below.refl _ w12).alloc (Nat.le_refl _) _
                          replace CX := (CX.below hba (Nat.le_refl _)).mono hba.size
                          replace CY := (CY.below hba (Nat.le_refl _)).mono hba.size
                          have hb13 := bt hbw hba
                          have x0 : (w12.alloc (.cells #[.int .i8 R.fmt, .string R.head.id, .string R.head.title, .string R.head.link, .string R.head.author, .string R.head.content, .string R.head.date, .int .i8 R.head.kind, .slice pb nb cb] 50)).cell? ⟨g1, 0, none⟩ = some (.int .i8 R.fmt) := B1.blk.cell 0 rfl
                          have x1 : (w12.alloc (.cells #[.int .i8 R.fmt, .string R.head.id, .string R.head.title, .string R.head.link, .string R.head.author, .string R.head.content, .string R.head.date, .int .i8 R.head.kind, .slice pb nb cb] 50)).cell? ⟨g1, 1, none⟩ = some (.string R.head.id) := B1.blk.cell 1 rfl
                          have x2 : (w12.alloc (.cells #[.int .i8 R.fmt, .string R.head.id, .string R.head.title, .string R.head.link, .string R.head.author, .string R.head.content, .string R.head.date, .int .i8 R.head.kind, .slice pb nb cb] 50)).cell? ⟨g1, 2, none⟩ = some (.string R.head.title) := B1.blk.cell 2 rfl
                          have x3 : (w12.alloc (.cells #[.int .i8 R.fmt, .string R.head.id, .string R.head.title, .string R.head.link, .string R.head.author, .string R.head.content, .string R.head.date, .int .i8 R.head.kind, .slice pb nb cb] 50)).cell? ⟨g1, 3, none⟩ = some (.string R.head.link) := B1.blk.cell 3 rfl
                          have x4 : (w12.alloc (.cells #[.int .i8 R.fmt, .string R.head.id, .string R.head.title, .string R.head.link, .string R.head.author, .string R.head.content, .string R.head.date, .int .i8 R.head.kind, .slice pb nb cb] 50)).cell? ⟨g1, 4, none⟩ = some (.string R.head.author) := B1.blk.cell 4 rfl
                          have x5 : (w12.alloc (.cells #[.int .i8 R.fmt, .string R.head.id, .string R.head.title, .string R.head.link, .string R.head.author, .string R.head.content, .string R.head.date, .int .i8 R.head.kind, .slice pb nb cb] 50)).cell? ⟨g1, 5, none⟩ = some (.string R.head.content) := B1.blk.cell 5 rfl
                          have x6 : (w12.alloc (.cells #[.int .i8 R.fmt, .string R.head.id, .string R.head.title, .string R.head.link, .string R.head.author, .string R.head.content, .string R.head.date, .int .i8 R.head.kind, .slice pb nb cb] 50)).cell? ⟨g1, 6, none⟩ = some (.string R.head.date) := B1.blk.cell 6 rfl
                          have x7 : (w12.alloc (.cells #[.int .i8 R.fmt, .string R.head.id, .string R.head.title, .string R.head.link, .string R.head.author, .string R.head.content, .string R.head.date, .int .i8 R.head.kind, .slice pb nb cb] 50)).cell? ⟨g1, 7, none⟩ = some (.int .i8 R.head.kind) := B1.blk.cell 7 rfl
                          have x8 : (w12.alloc (.cells #[.int .i8 R.fmt, .string R.head.id, .string R.head.title, .string R.head.link, .string R.head.author, .string R.head.content, .string R.head.date, .int .i8 R.head.kind, .slice pb nb cb] 50)).cell? ⟨g1, 8, none⟩ = some (.slice pa R.items.length ca) := B1.blk.cell 8 rfl
                          have HSM2 := Lib.hid (HSM.out _ _ _ CY CX)
                          have HB13 := Lib.hid hb13
                          clear HSM CX CY B1 B2 hx2 hba hbc hbw hb12 hb13 k1 k2 k3 k4 kcell
                          unfold rawC
                          go_wp2_with fail
                          refine (HSM2.out).mono ?_
                          rintro r w14 ⟨rfl, hb14⟩
                          have hb14 := bt HB13.out hb14
                          clear x0 x1 x2 x3 x4 x5 x6 x7 x8
                          go_wp2_with fail
                          refine (HW.out _).mono ?_
                          rintro r wz ⟨rfl, hbz⟩
                          go_wp2_with fail
                          go_ret
                          exact ⟨rfl, bt hb14 hbz⟩
end Go.Proofs.Yteefopeclfojiaa
