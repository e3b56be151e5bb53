/-
  The walk of refs.Strict.
-/
import Derived.Test.YtkdkoondchbekaaRfD
import Derived.RangeFuncNested
namespace Go.Proofs.Ytkdkoondchbekaa
open Go.RowKit Go.Shelf
attribute [local go_sem] Oper.semAt_some
theorem prN_isBs : ∀ (f : Nat) (l : List Int) (a : Nat), l.length ≤ f → isBs l → ∀ p ∈ prN a l, isBs p.2.2 ∧ a ≤ p.1 ∧ p.1 < a + l.length
  | _, [], a, _, _ => by rw [prN_nil]; simp
  | 0, _ :: _, _, h, _ => by simp at h
  | f + 1, c :: t, a, h, hb => by
    simp only [List.length_cons] at h
    have hbt : isBs t := fun x hx => hb x (List.mem_cons_of_mem _ hx)
    have hd : ∀ n, isBs (t.drop n) := fun n x hx => hbt x (List.mem_of_mem_drop hx)
    by_cases hc : c = 38
    · subst hc
      cases e : endN t with
      | none =>
        have i := prN_isBs f t (a + 1) (by omega) hbt
        rw [prN_amp a t e]
        intro p hp
        rw [List.mem_cons] at hp
        rcases hp with rfl | hp
        · refine ⟨fun x hx => ?_, Nat.le_refl _, by simp⟩
          simp at hx
          omega
        · obtain ⟨h1, h2, h3⟩ := i p hp
          exact ⟨h1, by omega, by simp; omega⟩
      | some n =>
        have hn := endN_lt t n e
        have i := prN_isBs f (t.drop (n + 1)) (a + n + 2) (by rw [List.length_drop]; omega) (hd _)
        rw [prN_ref a t n e]
        intro p hp
        rw [List.mem_cons] at hp
        rcases hp with rfl | hp
        · exact ⟨fun x hx => hbt x (List.mem_of_mem_take hx), Nat.le_refl _, by simp⟩
        · obtain ⟨h1, h2, h3⟩ := i p hp
          rw [List.length_drop] at h3
          exact ⟨h1, by omega, by simp; omega⟩
    · have h1 : 1 ≤ (runN (c :: t)).length := by rw [runN_pos t hc]; simp
      have h2 := runN_len (c :: t)
      simp only [List.length_cons] at h2
      have i := prN_isBs f ((c :: t).drop (runN (c :: t)).length) (a + (runN (c :: t)).length) (by rw [List.length_drop, List.length_cons]; omega) (fun x hx => hb x (List.mem_of_mem_drop hx))
      rw [prN_run a t hc]
      intro p hp
      rw [List.mem_cons] at hp
      rcases hp with rfl | hp
      · refine ⟨fun x hx => hb x ?_, Nat.le_refl _, by simp⟩
        have hx' : x ∈ runN (c :: t) := hx
        unfold runN at hx'
        exact (List.takeWhile_sublist _).subset hx'
      · obtain ⟨h3, h4, h5⟩ := i p hp
        rw [List.length_drop, List.length_cons] at h5
        exact ⟨h3, by omega, by simp; omega⟩
def rawL {s : ByteArray} (l : List (PcOf s)) : List (Nat × Bool × List Int) := l.map Subtype.val
theorem rawL_snoc {s : ByteArray} (l : List (PcOf s)) (x : PcOf s) : rawL (l ++ [x]) = rawL l ++ [x.1] := by simp [rawL]
theorem pc_facts {s : ByteArray} (x : PcOf s) : isBs x.1.2.2 ∧ x.1.1 < s.size ∧ x.1.2.2.length ≤ s.size := by
  obtain ⟨h1, _, h3⟩ := prN_isBs _ _ 0 (Nat.le_refl _) (nums_isBs s) x.1 x.2
  have h4 := (prN_bound _ _ 0 (Nat.le_refl _)).2.2 x.1 x.2
  rw [nums_length] at h3 h4
  exact ⟨h1, by omega, h4⟩
theorem outS_one (x : Nat × Bool × List Int) : (outS x).length ≤ 4 + x.2.2.length := by
  unfold outS
  split
  · omega
  · have := encN_len (scaN x.2.2).1; omega
theorem outS_len {s : ByteArray} (l : List (PcOf s)) : ((rawL l).flatMap outS).length ≤ l.length * (4 + s.size) := by
  unfold rawL
  induction l with
  | nil => simp
  | cons x t ih =>
    have h1 := outS_one x.1
    have h2 := (pc_facts x).2.2
    rw [List.map_cons, List.flatMap_cons, List.length_append, List.length_cons, Nat.succ_mul]
    omega
theorem outS_isBs : ∀ (l : List (Nat × Bool × List Int)), (∀ p ∈ l, isBs p.2.2) → isBs (l.flatMap outS)
  | [], _ => fun x hx => by simp at hx
  | p :: r, h => by
    rw [List.flatMap_cons]
    intro x hx
    rw [List.mem_append] at hx
    rcases hx with hx | hx
    · unfold outS at hx
      split at hx
      · exact h p (List.mem_cons_self ..) x hx
      · exact isBs_encN _ x hx
    · exact outS_isBs r (fun q hq => h q (List.mem_cons_of_mem _ hq)) x hx
theorem bd_not_pc {W : World} {b base : Nat} {xs : List Int} (h : BdZ W b base xs) : ∀ cs m, W.heap[b]? ≠ some (.cells cs 51 m) := by
  obtain ⟨v, h, _⟩ := h
  obtain ⟨p, _, hk⟩ := h.blk
  intro cs m e
  rw [hk] at e
  injection e with e
  injection e with _ e2 _
  exact absurd e2 (by decide)
/-- the piece's own block. -/
def PcAt (B : Nat) (x : Nat × Bool × List Int) (P : Nat) (W : World) : Prop := W.heap[P]? = some (.cells #[.int .i64 (x.1 : Nat), .bool x.2.1, .string (strOfNums x.2.2)] 51 (0, 0)) ∧ B ≤ P
theorem pcAt_own {α : Type} (B C : Nat) (x : Nat × Bool × List Int) (F : Nat → Prop) : OwnFrom C (fun (_ : α) W => ∃ P, PcAt B x P W ∧ F P) := by
  rintro _ X Y row ⟨P, ⟨hP, hle⟩, hF⟩ hg hr
  refine ⟨P, ⟨(hg.block P (Array.getElem?_eq_some_iff.1 hP).1 (fun e => ?_)).trans hP, hle⟩, hF⟩
  obtain ⟨_, o, ho, hc⟩ := hr P e.symm
  rw [hP] at ho
  cases ho
  cases hc
def StrI (w : World) (s : ByteArray) : List (PcOf s) → World → Prop := fun pre W =>
  (((((Boxed W w.heap.size 9 (.string ⟨#[]⟩) ∧ Boxed W (w.heap.size + 1) 3 (.int .i64 0)) ∧ Boxed W (w.heap.size + 1 + 1) 23 (.int .i64 0)) ∧ Boxed W (w.heap.size + 1 + 1 + 1 + 1) 9 (.string s)) ∧
    BdZ W (w.heap.size + 1 + 1 + 1) (w.heap.size + 5) ((rawL pre).flatMap outS)) ∧ Below w.heap.size w W) ∧ ∀ p ∈ rawL pre, goodS p = true
def StrX (w : World) (s : ByteArray) : Code → List (PcOf s) → World → Prop := fun c pre W =>
  ((∃ (g : List (Nat × Bool × List Int)) (x : Nat × Bool × List Int), (rawL pre = g ++ [x] ∧ (∀ p ∈ g, goodS p = true) ∧ goodS x = false) ∧
    Boxed W w.heap.size 9 (.string ⟨#[]⟩) ∧ Boxed W (w.heap.size + 1) 3 (.int .i64 (x.1 : Nat)) ∧ Boxed W (w.heap.size + 1 + 1) 23 (.int .i64 50)) ∧ Below w.heap.size w W) ∧ c = .ret
theorem strI_own (w : World) (s : ByteArray) (B : Nat) (hB : w.heap.size ≤ B) : OwnFrom B (StrI w s) :=
  (OwnFrom.and (OwnFrom.and (OwnFrom.and (OwnFrom.and (OwnFrom.and (OwnFrom.and (Own.from (boxed_own _ _ (fun _ => .string ⟨#[]⟩)) _) (Own.from (boxed_own _ _ (fun _ => .int .i64 0)) _)) (Own.from (boxed_own _ _ (fun _ => .int .i64 0)) _)) (Own.from (boxed_own _ _ (fun _ => .string s)) _)) (Own.from (bd_own _ _ (fun pre : List (PcOf s) => (rawL pre).flatMap outS)) _)) (ownFrom_below (Nat.le_refl _) hB)) (ownFrom_pure _ _))
theorem strX_own (w : World) (s : ByteArray) (B : Nat) (hB : w.heap.size ≤ B) (c : Code) : OwnFrom B (StrX w s c) := by
  rintro pre X Y row ⟨⟨⟨g, x, h, b1, b2, b3⟩, hb⟩, rfl⟩ hg hr
  have hn : ∀ {k t v}, Boxed X k t v → some k ≠ row := by
    intro k t v hk e
    obtain ⟨_, o, ho, hc⟩ := hr k e.symm
    rw [show X.heap[k]? = _ from hk] at ho
    cases ho
    cases hc
  exact ⟨⟨⟨g, x, h, b1.kept hg (hn b1), b2.kept hg (hn b2), b3.kept hg (hn b3)⟩, (ownFrom_below (β := Unit) (Nat.le_refl _) hB) () X Y row hb hg hr⟩, rfl⟩
set_option maxRecDepth 100000 in
set_option maxHeartbeats 4000000 in
theorem refs_Strict0 (s : ByteArray) (hs : s.size ≤ 500000) (w : World) :
    Calls Try.prog 10 #[.string s] w fun e w' => (e = .returned (.tuple #[.string (strOfNums ((prN 0 (nums s)).flatMap outS)), .int .i64 (-1), .int .i64 0]) ∧ (∀ p ∈ prN 0 (nums s), goodS p = true) ∨
      ∃ (g : List (Nat × Bool × List Int)) (x : Nat × Bool × List Int), e = .returned (.tuple #[.string ⟨#[]⟩, .int .i64 (x.1 : Nat), .int .i64 50]) ∧ (g ++ [x]) <+: prN 0 (nums s) ∧ (∀ p ∈ g, goodS p = true) ∧ goodS x = false) ∧ Below w.heap.size w w' := by
  refine (callsIn_wide (n := 5)).1 ?_
  refine callsIn_of_wp_marks Try.func10 rfl trivial ?_ rfl
  simp only [Try.ntmps10, List.size_toArray, List.length_cons, List.length_nil, Nat.reduceAdd, Nat.reduceSub, Array.replicate_succ, Array.replicate_zero, List.push_toArray, List.append_toArray, List.nil_append, List.cons_append]
  gi_wp2_with (refine ⟨trivial, ?_⟩; gi_at_call 24; refine (refs_pieces_in Fence.wide _ trivial rfl _ _).mono ?_; rintro e w' ⟨rfl, rfl⟩)
  have bA := Boxed.new w 9 (.string ⟨#[]⟩)
  obtain ⟨w1, hw1⟩ : ∃ x, w.alloc (.cells #[.string ⟨#[]⟩] 9) = x := ⟨_, rfl⟩
  have s1 : w1.heap.size = w.heap.size + 1 := by rw [← hw1, World.size_alloc]
  have e1 : Below w.heap.size w w1 := by rw [← hw1]; exact (Below.refl _ w).alloc (Nat.le_refl _) _
  rw [hw1] at bA
  rw [hw1]
  have bB := Boxed.new w1 3 (.int .i64 0)
  have bA := bA.alloc (.cells #[.int .i64 0] 3)
  obtain ⟨w2, hw2⟩ : ∃ x, w1.alloc (.cells #[.int .i64 0] 3) = x := ⟨_, rfl⟩
  have s2 : w2.heap.size = w.heap.size + 1 + 1 := by rw [← hw2, World.size_alloc, s1]
  have e2 : Below w.heap.size w w2 := by rw [← hw2]; exact e1.alloc (by omega) _
  rw [hw2] at bA bB
  rw [hw2]
  have bC := Boxed.new w2 23 (.int .i64 0)
  have bA := bA.alloc (.cells #[.int .i64 0] 23)
  have bB := bB.alloc (.cells #[.int .i64 0] 23)
  obtain ⟨w3, hw3⟩ : ∃ x, w2.alloc (.cells #[.int .i64 0] 23) = x := ⟨_, rfl⟩
  have s3 : w3.heap.size = w.heap.size + 1 + 1 + 1 := by rw [← hw3, World.size_alloc, s2]
  have e3 : Below w.heap.size w w3 := by rw [← hw3]; exact e2.alloc (by omega) _
  rw [hw3] at bA bB bC
  rw [hw3]
  have bD : (w3.alloc (.cells #[.pointer none, .slice none 0 0] 46)).heap[w3.heap.size]? = some (.cells #[.pointer none, .slice none 0 0] 46 (0, 0)) := heap_alloc_new w3 _
  have bA := bA.alloc (.cells #[.pointer none, .slice none 0 0] 46)
  have bB := bB.alloc (.cells #[.pointer none, .slice none 0 0] 46)
  have bC := bC.alloc (.cells #[.pointer none, .slice none 0 0] 46)
  obtain ⟨w4, hw4⟩ : ∃ x, w3.alloc (.cells #[.pointer none, .slice none 0 0] 46) = x := ⟨_, rfl⟩
  have s4 : w4.heap.size = w.heap.size + 1 + 1 + 1 + 1 := by rw [← hw4, World.size_alloc, s3]
  have e4 : Below w.heap.size w w4 := by rw [← hw4]; exact e3.alloc (by omega) _
  rw [hw4] at bA bB bC bD
  rw [hw4]
  have bE := Boxed.new w4 9 (.string s)
  have bA := bA.alloc (.cells #[.string s] 9)
  have bB := bB.alloc (.cells #[.string s] 9)
  have bC := bC.alloc (.cells #[.string s] 9)
  obtain ⟨w5, hw5⟩ : ∃ x, w4.alloc (.cells #[.string s] 9) = x := ⟨_, rfl⟩
  have s5 : w5.heap.size = w.heap.size + 5 := by rw [← hw5, World.size_alloc, s4]
  have e5 : Below w.heap.size w w5 := by rw [← hw5]; exact e4.alloc (by omega) _
  have bD : w5.heap[w3.heap.size]? = some (.cells #[.pointer none, .slice none 0 0] 46 (0, 0)) := by rw [← hw5, Below.heap_alloc _ _ _ (by omega)]; exact bD
  rw [hw5] at bA bB bC bE
  rw [hw5]
  rw [s1] at bB
  rw [s2] at bC
  rw [s3] at bD
  rw [s4] at bE
  clear hw1 hw2 hw3 hw4 hw5 s1 s2 s3 s4 e1 e2 e3 e4
  refine wpIn_rangeFunc_ownH rfl (by omega) (gf := 43) (lb := #[.pointer (some ⟨w.heap.size + 1 + 1 + 1 + 1, 0, none⟩)]) rfl trivial (enters_of Try.func43 (by kernel_rfl) rfl)
    (refs_pieces_stops _ (by omega) (w.heap.size + 1 + 1 + 1 + 1) s (by omega) _ (by omega) bE.cell) keepsPc_t (keepsPc_b (by omega)) (Below.refl _ _) (fun _ => rfl)
    (StrI w s)
    (StrX w s)
    (strI_own w s _ (by omega))
    (strX_own w s _ (by omega))
    ⟨⟨⟨⟨⟨⟨bA, bB⟩, bC⟩, bE⟩, BdAt.new0 _ _ _ bD (by omega)⟩, e5⟩, fun x hx => by cases hx⟩
    (fun x a' W => ∃ P, PcAt w5.heap.size x.1 P W ∧ a' = { tmps := #[.string s, undef, .pointer (some ⟨w.heap.size, 0, none⟩), .pointer (some ⟨w.heap.size + 1, 0, none⟩), .pointer (some ⟨w.heap.size + 1 + 1, 0, none⟩), .pointer (some ⟨w.heap.size + 1 + 1 + 1, 0, none⟩), .pointer (some ⟨P, 0, none⟩), undef, undef, undef, undef, .string s, .func (.func 43) #[] #[.pointer (some ⟨w.heap.size + 1 + 1 + 1 + 1, 0, none⟩)], pcV x.1, undef, undef, undef, undef, undef, undef, undef, undef, undef, undef, undef, undef, undef, undef, undef, undef, undef, undef, undef, undef, undef, undef, undef, undef, undef, undef, undef, undef, undef, undef, undef, undef, undef, undef], defers := [] })
    (fun x a' => pcAt_own _ _ x.1 _) ?assign ?body ?done ?stop
  case assign =>
    rintro l pre ⟨⟨k, rf, tx⟩, hx⟩ W K hI hK
    dsimp only [pcV]
    gi_wp2
    refine hK _ _ ((KeepsOthers.alloc _ _).from _) (keepsPc_below ?_ ((Below.refl _ W).alloc (Nat.le_refl _) _)) ?_ ⟨_, ⟨heap_alloc_new W _, ?_⟩, rfl⟩
    · exact hI.1.1.1.2.lt
    · exact (strI_own w s w.heap.size (Nat.le_refl _)).alloc _ hI
    · have := hI.1.1.1.2.lt; omega
  case body =>
    rintro l pre x a' W hl hrec ⟨⟨⟨⟨⟨⟨hr1, hr2⟩, hr3⟩, hsb⟩, hbd⟩, hB⟩, hgood⟩ ⟨P, ⟨hP, hPl⟩, rfl⟩ hlt
    obtain ⟨hbs, hkk, htl⟩ := pc_facts x
    have hol := outS_len pre
    have hmul : pre.length * (4 + s.size) ≤ 500000 * 500004 := Nat.mul_le_mul (by omega) (by omega)
    have hsn := rawL_snoc pre x
    obtain ⟨⟨k, rf, tx⟩, hx⟩ := x
    dsimp only at hbs hkk htl hsn hP
    obtain ⟨T, hT⟩ : ∃ T, strOfNums tx = T := ⟨_, rfl⟩
    have hTs : T.size = tx.length := by rw [← hT, strOfNums_size]
    have hnT : nums T = tx := by rw [← hT, nums_strOfNums tx hbs]
    rw [hT] at hP
    have hp0 : W.cell? ⟨P, 0, none⟩ = some (.int .i64 k) := by rw [cell_of_row W _ 0 _ _ _ hP]; rfl
    have hp1 : W.cell? ⟨P, 1, none⟩ = some (.bool rf) := by rw [cell_of_row W _ 1 _ _ _ hP]; rfl
    have hp2 : W.cell? ⟨P, 2, none⟩ = some (.string T) := by rw [cell_of_row W _ 2 _ _ _ hP]; rfl
    have hsz := hsb.lt
    have hPlt : P < W.heap.size := (Array.getElem?_eq_some_iff.1 hP).1
    have hWs : w.heap.size + 5 ≤ W.heap.size := by omega
    by_cases hpl : rf = false ∧ tx ≠ [38]
    · obtain ⟨rfl, hne⟩ := hpl
      have hg1 : goodS (k, false, tx) = true := by simp [goodS, hne]
      have ho1 : outS (k, false, tx) = nums T := by simp [outS, hne, hnT]
      have hT38 : (T.toList == [38]) = false := by
        cases h : T.toList == [38] with
        | false => rfl
        | true => exact absurd (hnT.symm.trans ((nums_iff T [38] [38] rfl).2 h)) hne
      have HBD := Lib.hid hbd
      have HW := Lib.hid (fun (u : World) (hu : w.heap.size + 5 ≤ u.heap.size) (hv : BdZ u (w.heap.size + 1 + 1 + 1) (w.heap.size + 5) ((rawL pre).flatMap outS)) => bd_writeK (w.heap.size + 1 + 1 + 1) (w.heap.size + 5) ((rawL pre).flatMap outS) T u hv (by omega) hu)
      clear hbd hT hmul hol
      gi_wp2_with (refine ⟨trivial, ?_⟩; gi_at_call 25; refine (CallsIn.inRound l (callsIn_wide.2 (HW.out _ hWs HBD.out))).mono ?_; rintro e w' ⟨rfl, hb2, hk2⟩)
      refine ⟨hk2.others.from _, keepsPc_kept hk2 (by omega) (by omega) (bd_not_pc HBD.out), ⟨⟨⟨⟨⟨hk2.boxed hr1 (by omega) (by omega), hk2.boxed hr2 (by omega) (by omega)⟩, hk2.boxed hr3 (by omega) (by omega)⟩, hk2.boxed hsb (by omega) (by omega)⟩, ?_⟩, hB.trans (hk2.bel.mono (by omega))⟩, ?_⟩
      · rw [hsn, List.flatMap_append, List.flatMap_cons, List.flatMap_nil, List.append_nil, ho1]
        exact hb2
      · rw [hsn]
        intro p hp
        rw [List.mem_append, List.mem_singleton] at hp
        rcases hp with hp | rfl
        · exact hgood p hp
        · exact hg1
    · obtain ⟨r, o, hso⟩ : ∃ r o, scaN tx = (r, o) := ⟨_, _, rfl⟩
      have hSC : ∀ u, Calls Try.prog 26 #[.string T] u fun e w' => e = .returned (.tuple #[.int .i64 r, .bool o]) ∧ Below u.heap.size u w' := by
        intro u
        have h := refs_scalar T u (by omega)
        rw [hnT, hso] at h
        exact h
      have HSC := Lib.hid hSC
      have hT38 : rf = false → (T.toList == [38]) = true := fun h => (nums_iff T [38] [38] rfl).1 (by rw [hnT]; exact Classical.byContradiction fun e => hpl ⟨h, e⟩)
      have ho1 : outS (k, rf, tx) = encN r := by
        unfold outS
        rw [hso]
        cases rf with
        | true => simp
        | false => have h := Classical.byContradiction fun e => hpl ⟨rfl, e⟩; simp [h]
      have hg1 : goodS (k, rf, tx) = (rf && o) := by
        unfold goodS
        rw [hso]
        cases rf with
        | true => simp
        | false => have h := Classical.byContradiction fun e => hpl ⟨rfl, e⟩; simp [h]
      by_cases hgo : (rf && o) = true
      · rw [Bool.and_eq_true] at hgo
        obtain ⟨rfl, rfl⟩ := hgo
        have HPU := Lib.hid (fun u => utf8_Put r u)
        have hel : (encS r).size ≤ 4 := by rw [encS_size]; exact encN_len r
        have HW := Lib.hid (fun (u : World) (hu : w.heap.size + 5 ≤ u.heap.size) (hv : BdZ u (w.heap.size + 1 + 1 + 1) (w.heap.size + 5) ((rawL pre).flatMap outS)) => bd_writeK (w.heap.size + 1 + 1 + 1) (w.heap.size + 5) ((rawL pre).flatMap outS) (encS r) u hv (by omega) hu)
        have HBD := Lib.hid hbd
        have HG := Lib.hid hg1
        have HO1 := Lib.hid ho1
        clear hbd hT hmul hol hSC hso hpl hg1 ho1 hT38
        gi_wp2_with first
          | (refine ⟨trivial, ?_⟩; gi_at_call 26; refine (CallsIn.inRound l (callsIn_wide.2 (HSC.out _))).mono ?_; rintro e w2 ⟨rfl, hb2⟩; have hp12 := (hb2.cell (p := ⟨P, 1, none⟩) hPlt).trans hp1)
          | (refine ⟨trivial, ?_⟩; gi_at_call 27; refine (CallsIn.inRound l (callsIn_wide.2 (HPU.out _))).mono ?_; rintro e w3 ⟨rfl, hb3⟩; have hbb := hb2.trans (hb3.mono hb2.size))
          | (refine ⟨trivial, ?_⟩; gi_at_call 25; refine (CallsIn.inRound l (callsIn_wide.2 (HW.out _ (Nat.le_trans hWs hbb.size) (HBD.out.low hbb)))).mono ?_; rintro e w4 ⟨rfl, hb4, hk4⟩)
        have hk5 := (Kept.of_below (b := w.heap.size + 1 + 1 + 1) (base := w.heap.size + 5) hbb hWs (by omega)).trans hk4
        refine ⟨hk5.others.from _, keepsPc_kept hk5 (by omega) (by omega) (bd_not_pc HBD.out), ⟨⟨⟨⟨⟨hk5.boxed hr1 (by omega) (by omega), hk5.boxed hr2 (by omega) (by omega)⟩, hk5.boxed hr3 (by omega) (by omega)⟩, hk5.boxed hsb (by omega) (by omega)⟩, ?_⟩, hB.trans (hk5.bel.mono (by omega))⟩, ?_⟩
        · rw [hsn, List.flatMap_append, List.flatMap_cons, List.flatMap_nil, List.append_nil, HO1.out, ← encS_nums]
          exact hb4
        · rw [hsn]
          intro p hp
          rw [List.mem_append, List.mem_singleton] at hp
          rcases hp with hp | rfl
          · exact hgood p hp
          · rw [HG.out]; rfl
      · have hbad : (rf && o) = false := by simpa using hgo
        have HG := Lib.hid (hg1.trans hbad)
        clear hbd hT hmul hol hSC hso hpl hg1 ho1 hgo
        have key : ∀ (w2 : World), Below W.heap.size W w2 → ownPostG w5.heap.size (KeepsPc (w.heap.size + 1 + 1 + 1 + 1)) (StrI w s) (StrX w s) (pre ++ [⟨(k, rf, tx), hx⟩]) W .ret { tmps := #[], defers := [] } ((((w2.setCell ⟨w.heap.size, 0, none⟩ (.string ⟨#[]⟩)).setCell ⟨w.heap.size + 1, 0, none⟩ (.int .i64 k)).setCell ⟨w.heap.size + 1 + 1, 0, none⟩ (.int .i64 50)).drew) := by
          intro w2 hb2
          have hr12 : Boxed w2 _ _ _ := (hb2.block _ hr1.lt).trans hr1
          have hr22 : Boxed w2 _ _ _ := (hb2.block _ hr2.lt).trans hr2
          have hr32 : Boxed w2 _ _ _ := (hb2.block _ hr3.lt).trans hr3
          refine ⟨((((keepsOthers_of_below hb2).trans (KeepsOthers.setCell _ _ _)).trans (KeepsOthers.setCell _ _ _)).trans (KeepsOthers.setCell _ _ _)).trans (KeepsOthers.drew _) |>.from _, ⟨⟨rawL pre, (k, rf, tx), ⟨hsn, hgood, HG.out⟩, ?_, ?_, ?_⟩, ?_⟩, rfl⟩
          · exact ((hr12.set (.string ⟨#[]⟩)).other (by omega) _).other (by omega) _
          · exact ((hr22.other (by omega) _).set _).other (by omega) _
          · exact ((hr32.other (by omega) _).other (by omega) _).set _
          · exact (hB.trans (((((show Below w.heap.size W w2 from hb2.mono (by omega))).setCell (p := ⟨w.heap.size, 0, none⟩) (Nat.le_refl _) _).setCell (p := ⟨w.heap.size + 1, 0, none⟩) (by simp) _).setCell (p := ⟨w.heap.size + 1 + 1, 0, none⟩) (by simp; omega) _).drew)
        cases rf with
        | true =>
          obtain rfl : o = false := by simpa using hbad
          gi_wp2_with first
            | (refine ⟨trivial, ?_⟩; gi_at_call 26; refine (CallsIn.inRound l (callsIn_wide.2 (HSC.out _))).mono ?_; rintro e w2 ⟨rfl, hb2⟩; have hp12 := (hb2.cell (p := ⟨P, 1, none⟩) hPlt).trans hp1; have hp02 := (hb2.cell (p := ⟨P, 0, none⟩) hPlt).trans hp0)
          have hr12 : Boxed w2 _ _ _ := (hb2.block _ hr1.lt).trans hr1
          have hr22 : Boxed w2 _ _ _ := (hb2.block _ hr2.lt).trans hr2
          have hr32 : Boxed w2 _ _ _ := (hb2.block _ hr3.lt).trans hr3
          have c1 := hr12.cell
          have c2 := hr22.cell
          have c3 := hr32.cell
          have f1 := hr12.frozen
          have f2 := hr22.frozen
          have f3 := hr32.frozen
          gi_region
          all_goals first | exact key w2 hb2 | (gi_wp2; exact key w2 hb2)
        | false =>
          have hT38 := hT38 rfl
          gi_wp2_with first
            | (refine ⟨trivial, ?_⟩; gi_at_call 26; refine (CallsIn.inRound l (callsIn_wide.2 (HSC.out _))).mono ?_; rintro e w2 ⟨rfl, hb2⟩; have hp12 := (hb2.cell (p := ⟨P, 1, none⟩) hPlt).trans hp1; have hp02 := (hb2.cell (p := ⟨P, 0, none⟩) hPlt).trans hp0)
          have hr12 : Boxed w2 _ _ _ := (hb2.block _ hr1.lt).trans hr1
          have hr22 : Boxed w2 _ _ _ := (hb2.block _ hr2.lt).trans hr2
          have hr32 : Boxed w2 _ _ _ := (hb2.block _ hr3.lt).trans hr3
          have c1 := hr12.cell
          have c2 := hr22.cell
          have c3 := hr32.cell
          have f1 := hr12.frozen
          have f2 := hr22.frozen
          have f3 := hr32.frozen
          gi_region
          all_goals first | exact key w2 hb2 | (gi_wp2; exact key w2 hb2)
  case done =>
    rintro D ys W hD hys ⟨⟨⟨⟨⟨⟨hr1, hr2⟩, hr3⟩, hsb⟩, hbd⟩, hB⟩, hgood⟩ hK
    have hol := outS_len ys
    have hraw : rawL ys = prN 0 (nums s) := hys
    rw [hraw] at hbd hgood
    obtain ⟨xs, hxs⟩ : ∃ xs, (prN 0 (nums s)).flatMap outS = xs := ⟨_, rfl⟩
    have hxb : isBs xs := by rw [← hxs]; exact outS_isBs _ fun p hp => (prN_isBs _ _ 0 (Nat.le_refl _) (nums_isBs s) p hp).1
    rw [hxs] at hbd
    have HX := Lib.hid hxs
    have HS := Lib.hid (bd_stringK (w.heap.size + 1 + 1 + 1) (w.heap.size + 5) xs W hbd hxb)
    clear hbd hxs hol
    have c1 := hr1.cell
    have c2 := hr2.cell
    have c3 := hr3.cell
    have f1 := hr1.frozen
    have f2 := hr2.frozen
    have f3 := hr3.frozen
    gi_wp2_with (refine ⟨trivial, ?_⟩; gi_at_call 28; refine (callsIn_wide.2 HS.out).mono ?_; rintro e w2 ⟨rfl, hb2, ho2, hk2⟩; have hr12 : Boxed w2 _ _ _ := (hb2.block w.heap.size (by omega)).trans hr1; have hr22 : Boxed w2 _ _ _ := (hb2.block (w.heap.size + 1) (by omega)).trans hr2; have hr32 : Boxed w2 _ _ _ := (hb2.block (w.heap.size + 1 + 1) (by omega)).trans hr3; have c1 := hr12.cell; have c2 := hr22.cell; have c3 := hr32.cell; have f1 := hr12.frozen; have f2 := hr22.frozen; have f3 := hr32.frozen)
    have b1 := ((hr12.set (.string (strOfNums xs))).other (B' := w.heap.size + 1) (by omega) (.int .i64 (-1))).other (B' := w.heap.size + 1 + 1) (by omega) (.int .i64 0)
    have b2 := ((hr22.other (B' := w.heap.size) (by omega) (.string (strOfNums xs))).set (.int .i64 (-1))).other (B' := w.heap.size + 1 + 1) (by omega) (.int .i64 0)
    have b3 := ((hr32.other (B' := w.heap.size) (by omega) (.string (strOfNums xs))).other (B' := w.heap.size + 1) (by omega) (.int .i64 (-1))).set (.int .i64 0)
    have hKd := (((KeepsOthers.setCell w2 ⟨w.heap.size, 0, none⟩ (.string (strOfNums xs))).trans (KeepsOthers.setCell _ ⟨w.heap.size + 1, 0, none⟩ (.int .i64 (-1)))).trans (KeepsOthers.setCell _ ⟨w.heap.size + 1 + 1, 0, none⟩ (.int .i64 0))).same D _ (hk2.same D _ hK rfl) rfl
    have hBf := hB.trans ((((show Below w.heap.size W w2 from hb2.mono (by omega)).setCell (p := ⟨w.heap.size, 0, none⟩) (Nat.le_refl _) (.string (strOfNums xs))).setCell (p := ⟨w.heap.size + 1, 0, none⟩) (by simp) (.int .i64 (-1))).setCell (p := ⟨w.heap.size + 1 + 1, 0, none⟩) (by simp; omega) (.int .i64 0))
    refine ⟨by simp, .inl ⟨_, _, rfl, run_takeDeferred hKd, ?_⟩⟩
    have k1 := cell_kept b1.cell (grownBy_putObj' _ D (.deferred none)) (fun r e => by cases e; exact ⟨_, hKd, rfl⟩)
    have k2 := cell_kept b2.cell (grownBy_putObj' _ D (.deferred none)) (fun r e => by cases e; exact ⟨_, hKd, rfl⟩)
    have k3 := cell_kept b3.cell (grownBy_putObj' _ D (.deferred none)) (fun r e => by cases e; exact ⟨_, hKd, rfl⟩)
    refine ⟨.tuple #[.string (strOfNums xs), .int .i64 (-1), .int .i64 0], ?_, .inl ⟨by rw [HX.out], hgood⟩, hBf.trans (belowK_b (w := w) (Nat.le_refl _) _ D _ _ (by omega) hKd rfl rfl)⟩
    simp [results, Try.f10, go_sem, k1, k2, k3]
  case stop =>
    rintro D c pre W hD ht ⟨⟨⟨g, x, ⟨e, hg, hx⟩, h1, h2, h3⟩, hB⟩, rfl⟩ hK
    gi_wp2
    refine ⟨by simp, .inl ⟨_, _, rfl, run_takeDeferred hK, ?_⟩⟩
    have k1 := cell_kept h1.cell (grownBy_putObj' _ D (.deferred none)) (fun r e => by cases e; exact ⟨_, hK, rfl⟩)
    have k2 := cell_kept h2.cell (grownBy_putObj' _ D (.deferred none)) (fun r e => by cases e; exact ⟨_, hK, rfl⟩)
    have k3 := cell_kept h3.cell (grownBy_putObj' _ D (.deferred none)) (fun r e => by cases e; exact ⟨_, hK, rfl⟩)
    have ht' : (g ++ [x]) <+: prN 0 (nums s) := by rw [← e]; exact ht
    refine ⟨.tuple #[.string ⟨#[]⟩, .int .i64 (x.1 : Nat), .int .i64 50], ?_, .inr ⟨g, x, rfl, ht', hg, hx⟩, hB.trans (belowK_b (w := w) (Nat.le_refl _) W D _ _ (by omega) hK rfl rfl)⟩
    simp [results, Try.f10, go_sem, k1, k2, k3]
/-- what Strict gives, as a value. -/
def strV (r : Sum Nat (List Int)) : Value := match r with
  | .inl k => .tuple #[.string ⟨#[]⟩, .int .i64 (k : Nat), .int .i64 50]
  | .inr xs => .tuple #[.string (strOfNums xs), .int .i64 (-1), .int .i64 0]
theorem refs_Strict (s : ByteArray) (hs : s.size ≤ 500000) (w : World) :
    Calls Try.prog 10 #[.string s] w fun e w' => e = .returned (strV (strictN 0 (nums s))) ∧ Below w.heap.size w w' := by
  refine (refs_Strict0 s hs w).mono ?_
  rw [← strP_pr _ _ 0 (Nat.le_refl _)]
  rintro e w' ⟨⟨rfl, hg⟩ | ⟨g, x, rfl, hp, hg, hx⟩, hb⟩
  · rw [strP_all _ hg]
    exact ⟨rfl, hb⟩
  · rw [strP_stop _ _ _ hp hg hx]
    exact ⟨rfl, hb⟩
end Go.Proofs.Ytkdkoondchbekaa
