/-
  Layer 7: the walk of (*cutter).part.
-/
import Derived.Test.YtaheooedcjjckaaDeE
import Derived.Test.YtaheooedcjjckaaMx
import Derived.RangeFuncNested
namespace Go.Proofs.Ytaheooedcjjckaa
open Go.RowKit
theorem empty_iff (s : ByteArray) : (s.toList == []) = decide (nums s = []) := by
  have h : (nums s = []) ↔ (s.toList == []) = true := by
    have e : s.toList = s.data.toList := ByteArray.toList_eq s
    rw [e]
    unfold nums
    cases h : s.data.toList <;> simp
  by_cases hn : nums s = []
  · rw [h.1 hn, decide_eq_true hn]
  · rw [decide_eq_false hn]
    cases e : s.toList == [] with
    | false => rfl
    | true => exact absurd (h.2 e) hn
theorem isBs_take {l : List Int} (h : isBs l) (P : Int → Bool) : isBs (l.takeWhile P) := fun x hx => h x ((List.takeWhile_sublist _).subset hx)
theorem isBs_drop {l : List Int} (h : isBs l) (P : Int → Bool) : isBs (l.dropWhile P) := fun x hx => h x ((List.dropWhile_sublist _).subset hx)
theorem isBs_dropN {l : List Int} (h : isBs l) (n : Nat) : isBs (l.drop n) := fun x hx => h x (List.mem_of_mem_drop hx)
theorem isBs_takeN {l : List Int} (h : isBs l) (n : Nat) : isBs (l.take n) := fun x hx => h x (List.mem_of_mem_take hx)
/-- the state within part: the cutter's text, the result's block. -/
structure PIn (w W : World) (b P : Nat) (s : ByteArray) : Prop where
  cur : Boxed W b 60 (.string s)
  out : BlkAt W P #[.string ⟨#[]⟩, .string ⟨#[]⟩]
  gr : w.grownBy W (some b)
  lt : b < P
  lo : w.heap.size ≤ P
theorem PIn.blk {w W : World} {b P : Nat} {s : ByteArray} (q : PIn w W b P s) : BlkAt W b #[.string s] := ⟨_, q.cur⟩
theorem PIn.set {w W : World} {b P : Nat} {s : ByteArray} (q : PIn w W b P s) (t : ByteArray) : PIn w (W.setCell ⟨b, 0, none⟩ (.string t)) b P t :=
  ⟨q.cur.set _, q.out.far (Nat.ne_of_gt q.lt) 0 _, ⟨q.gr.os, q.gr.tape, q.gr.output, by simpa using q.gr.size, fun k hk hne => by
    rw [heap_setCell_other W ⟨b, 0, none⟩ k _ (fun e => hne (by rw [e]))]
    exact q.gr.block k hk hne⟩, q.lt, q.lo⟩
theorem PIn.drewN {w W : World} {b P : Nat} {s : ByteArray} (q : PIn w W b P s) (n : Nat) : PIn w (W.drewN n) b P s :=
  ⟨q.cur, q.out.drewN n, ⟨q.gr.os, q.gr.tape, q.gr.output, q.gr.size, q.gr.block⟩, q.lt, q.lo⟩
theorem PIn.max {w W : World} {b P : Nat} {s s0 : ByteArray} (q : PIn w W b P s) {m : Int} (hm : MaxAt w m) (hs : Boxed w b 60 (.string s0)) : MaxAt W m := hm.grown (cs := #[]) (s := s0) ⟨_, hs⟩ q.gr
/-- what part comes to. -/
def partPost (w : World) (b : Nat) (s : ByteArray) (e : Ending) (w' : World) : Prop :=
  ∃ x y z ok, e = .returned (.tuple #[.agg #[.string x, .string y], .bool ok]) ∧ ok = (partD (nums s)).isSome ∧ Boxed w' b 60 (.string z) ∧ w.grownBy w' (some b) ∧ z.size ≤ s.size ∧
    ∀ p, partD (nums s) = some p → x = strOfNums p.1.1 ∧ y = strOfNums p.1.2 ∧ nums z = p.2
theorem PIn.fin {w W : World} {b P : Nat} {s s' : ByteArray} (q : PIn w W b P s') (x y : ByteArray) (ok : Bool) (hok : ok = (partD (nums s)).isSome) (hsz : s'.size ≤ s.size) (hp : ∀ p, partD (nums s) = some p → x = strOfNums p.1.1 ∧ y = strOfNums p.1.2 ∧ nums s' = p.2) :
    partPost w b s (.returned (.tuple #[.agg #[.string x, .string y], .bool ok])) ((W.setCell ⟨P, 0, none⟩ (.string x)).setCell ⟨P, 1, none⟩ (.string y)) := by
  have hlt := q.lt
  have hlo := q.lo
  refine ⟨x, y, s', ok, rfl, hok, (heap_setCell_other _ ⟨P, 1, none⟩ b _ (by show b ≠ P; omega)).trans (Boxed.other q.cur (by omega) _), ⟨q.gr.os, q.gr.tape, q.gr.output, by simpa using q.gr.size, fun k hk hne => ?_⟩, hsz, hp⟩
  rw [heap_setCell_other _ ⟨P, 1, none⟩ k _ (by show k ≠ P; omega), heap_setCell_other _ ⟨P, 0, none⟩ k _ (by show k ≠ P; omega)]
  exact q.gr.block k hk hne
theorem PIn.no {w W : World} {b P : Nat} {s s' : ByteArray} (q : PIn w W b P s') (h : partD (nums s) = none) (hsz : s'.size ≤ s.size) :
    partPost w b s (.returned (.tuple #[.agg #[.string ⟨#[]⟩, .string ⟨#[]⟩], .bool false])) ((W.setCell ⟨P, 0, none⟩ (.string ⟨#[]⟩)).setCell ⟨P, 1, none⟩ (.string ⟨#[]⟩)) :=
  q.fin _ _ _ (by rw [h]; rfl) hsz (fun p hp => by rw [h] at hp; cases hp)
theorem strOfNums_le {l : List Int} {s : ByteArray} (h : l.length ≤ s.size) : (strOfNums l).size ≤ s.size := by rw [strOfNums_size]; exact h
set_option maxHeartbeats 400000 in
theorem part_good (b P : Nat) (s s1 s2 s3 s4 s5 A B C D T S y z : ByteArray) (ok : Bool) (c : Int) (w W0 : World) (hP : w.heap.size = P) (_hbl : b < w.heap.size) (hW0 : w.alloc (.cells #[.string ⟨#[]⟩, .string ⟨#[]⟩] 38) = W0) (q0 : PIn w W0 b P s)
    (w1 : Hid (∀ W, PIn w W b P s → Calls Try.prog 39 #[.pointer (some ⟨b, 0, none⟩), .func (.func 31) #[] #[]] W fun e w' => e = .returned (.string A) ∧ w' = W.setCell ⟨b, 0, none⟩ (.string s1)))
    (w2 : Hid (∀ W, PIn w W b P s1 → Calls Try.prog 39 #[.pointer (some ⟨b, 0, none⟩), .func (.func 40) #[] #[]] W fun e w' => e = .returned (.string B) ∧ w' = W.setCell ⟨b, 0, none⟩ (.string s2)))
    (w3 : Hid (∀ W, PIn w W b P s2 → Calls Try.prog 39 #[.pointer (some ⟨b, 0, none⟩), .func (.func 31) #[] #[]] W fun e w' => e = .returned (.string C) ∧ w' = W.setCell ⟨b, 0, none⟩ (.string s3)))
    (w5 : Hid (∀ W, PIn w W b P s4 → Calls Try.prog 39 #[.pointer (some ⟨b, 0, none⟩), .func (.func 31) #[] #[]] W fun e w' => e = .returned (.string D) ∧ w' = W.setCell ⟨b, 0, none⟩ (.string s5)))
    (eA : (A.toList == []) = false) (eB : (B.toList == []) = false) (e5 : (s5.toList == []) = false)
    (HX : Hid (∀ u, Calls Try.prog 27 #[.string s3, .string ⟨#[61]⟩] u fun e w' => e = .returned (.bool true) ∧ u = w'))
    (z3' : (1 : Int) ≤ (s3.size : Int)) (hs4 : s3.extract 1 s3.size = s4) (_z5' : (0 : Int) < (s5.size : Int)) (z5'' : (1 : Int) ≤ (s5.size : Int)) (hT : s5.extract 1 s5.size = T) (hS : s5.extract 0 1 = S)
    (hix : ∀ w : World, (Instr.index 9 (.string s5) (.int .i64 0)).run Try.prog w = .ok (.int .u8 c) w)
    (c34 : (c != 34) = false ∨ ((c != 34) = true ∧ (c != 39) = false))
    (HCUT : Hid (∀ W, PIn w W b P s5 → Calls Try.prog 30 #[.string T, .string S] W fun e w' => e = .returned (.tuple #[.string y, .string z, .bool ok]) ∧ ∃ n, w' = W.drewN n))
    (HF : Hid (∀ W, PIn w W b P z → partPost w b s (.returned (.tuple #[.agg #[.string B, .string y], .bool ok])) ((W.setCell ⟨P, 0, none⟩ (.string B)).setCell ⟨P, 1, none⟩ (.string y)))) :
    Calls Try.prog 32 #[.pointer (some ⟨b, 0, none⟩)] w fun e w' => partPost w b s e w' := by
  go_enter Try.func32, Try.ntmps32
  go_wp2_with fail
  refine (w1.out _ q0).mono ?_
  rintro e w' ⟨rfl, rfl⟩
  have q1 := q0.set s1
  generalize W0.setCell ⟨b, 0, none⟩ (.string s1) = W1 at q1 ⊢
  go_wp2_with fail
  refine (w2.out _ q1).mono ?_
  rintro e w' ⟨rfl, rfl⟩
  have q2 := q1.set s2
  generalize W1.setCell ⟨b, 0, none⟩ (.string s2) = W2 at q2 ⊢
  go_wp2_with fail
  refine (w3.out _ q2).mono ?_
  rintro e w' ⟨rfl, rfl⟩
  have q3 := q2.set s3
  generalize W2.setCell ⟨b, 0, none⟩ (.string s3) = W3 at q3 ⊢
  have d0 := q3.blk.cell 0 rfl
  have d1 := q3.blk.free 0
  go_wp2_with fail
  refine (HX.out _).mono ?_
  rintro e w' ⟨rfl, rfl⟩
  go_wp2_with fail
  have q4 := q3.set s4
  generalize W3.setCell ⟨b, 0, none⟩ (.string s4) = W4 at q4 ⊢
  refine (w5.out _ q4).mono ?_
  rintro e w' ⟨rfl, rfl⟩
  have q5 := q4.set s5
  generalize W4.setCell ⟨b, 0, none⟩ (.string s5) = W5 at q5 ⊢
  have c0 := q5.out.cell 0 rfl
  have c1 := q5.out.cell 1 rfl
  have f0 := q5.out.free 0
  have f1 := q5.out.free 1
  have g0 := q5.blk.cell 0 rfl
  have g1 := q5.blk.free 0
  rcases c34 with c34 | ⟨c34, c39⟩
  all_goals
    go_wp2_with fail
    go_quiet ((go_at_call 30; exact Calls.quiet_of (HCUT.out _ (q5.drewN _))))
    have q6 := q5.drewN nq
    have q7 := q6.set z
    have h0 := q6.blk.free 0
    have h1 := q6.blk.cell 0 rfl
    have c0 := q7.out.cell 0 rfl
    have c1 := q7.out.cell 1 rfl
    have f0 := q7.out.free 0
    have f1 := q7.out.free 1
    have R := HF.out _ q7
    go_wp2_with fail
    refine bodyPost_ret (results_cell2 rfl _ _ _ _ _ rfl ((q7.out.set 0 _).set 1 _) Try.underlying38 rfl (by kernel_rfl)) rfl ?_
    exact R
set_option maxHeartbeats 4000000 in
theorem cutter_part (b : Nat) (s : ByteArray) (w : World) (m : Int) (hm : MaxAt w m) (hs : s.size ≤ 1000000) (hc : Boxed w b 60 (.string s)) :
    Calls Try.prog 32 #[.pointer (some ⟨b, 0, none⟩)] w fun e w' => partPost w b s e w' := by
  have hbl := hc.lt
  have q0 : PIn w (w.alloc (.cells #[.string ⟨#[]⟩, .string ⟨#[]⟩] 38)) b w.heap.size s := ⟨Boxed.alloc hc _, BlkAt.new w _ _, World.grownBy_alloc w _ _, hbl, Nat.le_refl _⟩
  obtain ⟨W0, hW0⟩ : ∃ x, w.alloc (.cells #[.string ⟨#[]⟩, .string ⟨#[]⟩] 38) = x := ⟨_, rfl⟩
  rw [hW0] at q0
  obtain ⟨P, hP⟩ : ∃ P, w.heap.size = P := ⟨_, rfl⟩
  rw [hP] at q0
  have hb0 := nums_isBs s
  -- the texts that are left, one behind the other
  obtain ⟨A, hA⟩ : ∃ x, strOfNums ((nums s).takeWhile whN) = x := ⟨_, rfl⟩
  obtain ⟨s1, hs1⟩ : ∃ x, strOfNums ((nums s).dropWhile whN) = x := ⟨_, rfl⟩
  have nA : nums A = (nums s).takeWhile whN := by rw [← hA, nums_strOfNums _ (isBs_take hb0 _)]
  have n1 : nums s1 = (nums s).dropWhile whN := by rw [← hs1, nums_strOfNums _ (isBs_drop hb0 _)]
  have l1 : s1.size ≤ s.size := by rw [← nums_length, ← nums_length, n1]; exact drop_len _ _
  obtain ⟨B, hB⟩ : ∃ x, strOfNums ((nums s1).takeWhile smN) = x := ⟨_, rfl⟩
  obtain ⟨s2, hs2⟩ : ∃ x, strOfNums ((nums s1).dropWhile smN) = x := ⟨_, rfl⟩
  have nB : nums B = (nums s1).takeWhile smN := by rw [← hB, nums_strOfNums _ (isBs_take (nums_isBs _) _)]
  have n2 : nums s2 = (nums s1).dropWhile smN := by rw [← hs2, nums_strOfNums _ (isBs_drop (nums_isBs _) _)]
  have l2 : s2.size ≤ s.size := by refine Nat.le_trans ?_ l1; rw [← nums_length, ← nums_length, n2]; exact drop_len _ _
  obtain ⟨C, hC⟩ : ∃ x, strOfNums ((nums s2).takeWhile whN) = x := ⟨_, rfl⟩
  obtain ⟨s3, hs3⟩ : ∃ x, strOfNums ((nums s2).dropWhile whN) = x := ⟨_, rfl⟩
  have n3 : nums s3 = (nums s2).dropWhile whN := by rw [← hs3, nums_strOfNums _ (isBs_drop (nums_isBs _) _)]
  have l3 : s3.size ≤ s.size := by refine Nat.le_trans ?_ l2; rw [← nums_length, ← nums_length, n3]; exact drop_len _ _
  have hpd : partD (nums s) = if nums A = [] then none else if nums B = [] then none else match nums s3 with
      | 61 :: t => (valD (t.dropWhile whN)).map fun p => ((nums B, p.1), p.2)
      | _ => none := by
    rw [nA, nB, n3, n2, n1]; rfl
  have HP := Lib.hid hpd
  have w1 := Lib.hid (fun (W : World) (q : PIn w W b P s) => by have h := while_white b s W (by omega) (q.blk.cell 0 rfl) (q.blk.free 0); rw [hA, hs1] at h; exact h)
  have w2 := Lib.hid (fun (W : World) (q : PIn w W b P s1) => by have h := while_small b s1 W (by omega) (q.blk.cell 0 rfl) (q.blk.free 0); rw [hB, hs2] at h; exact h)
  have w3 := Lib.hid (fun (W : World) (q : PIn w W b P s2) => by have h := while_white b s2 W (by omega) (q.blk.cell 0 rfl) (q.blk.free 0); rw [hC, hs3] at h; exact h)
  have eA := empty_iff A
  have eB := empty_iff B
  clear hpd hA hs1 hB hs2 hC hs3 nA nB n1 n2 n3
  by_cases hAe : nums A = []
  · rw [decide_eq_true hAe] at eA
    have HN := Lib.hid (show partD (nums s) = none by rw [HP.out, if_pos hAe])
    clear hAe eB
    go_enter Try.func32, Try.ntmps32
    go_wp2_with fail
    refine (w1.out _ q0).mono ?_
    rintro e w' ⟨rfl, rfl⟩
    have q1 := q0.set s1
    generalize W0.setCell ⟨b, 0, none⟩ (.string s1) = W1 at q1 ⊢
    have c0 := q1.out.cell 0 rfl
    have c1 := q1.out.cell 1 rfl
    have f0 := q1.out.free 0
    have f1 := q1.out.free 1
    go_wp2_with fail
    refine bodyPost_ret (results_cell2 rfl _ _ _ _ _ rfl ((q1.out.set 0 _).set 1 _) Try.underlying38 rfl (by kernel_rfl)) rfl ?_
    exact q1.no HN.out l1
  rw [decide_eq_false hAe] at eA
  by_cases hBe : nums B = []
  · rw [decide_eq_true hBe] at eB
    have HN := Lib.hid (show partD (nums s) = none by rw [HP.out, if_neg hAe, if_pos hBe])
    clear hAe hBe
    go_enter Try.func32, Try.ntmps32
    go_wp2_with fail
    refine (w1.out _ q0).mono ?_
    rintro e w' ⟨rfl, rfl⟩
    have q1 := q0.set s1
    generalize W0.setCell ⟨b, 0, none⟩ (.string s1) = W1 at q1 ⊢
    go_wp2_with fail
    refine (w2.out _ q1).mono ?_
    rintro e w' ⟨rfl, rfl⟩
    have q2 := q1.set s2
    generalize W1.setCell ⟨b, 0, none⟩ (.string s2) = W2 at q2 ⊢
    go_wp2_with fail
    refine (w3.out _ q2).mono ?_
    rintro e w' ⟨rfl, rfl⟩
    have q3 := q2.set s3
    generalize W2.setCell ⟨b, 0, none⟩ (.string s3) = W3 at q3 ⊢
    have c0 := q3.out.cell 0 rfl
    have c1 := q3.out.cell 1 rfl
    have f0 := q3.out.free 0
    have f1 := q3.out.free 1
    go_wp2_with fail
    refine bodyPost_ret (results_cell2 rfl _ _ _ _ _ rfl ((q3.out.set 0 _).set 1 _) Try.underlying38 rfl (by kernel_rfl)) rfl ?_
    exact q3.no HN.out l3
  rw [decide_eq_false hBe] at eB
  have hpx := preB_nums s3 ⟨#[61]⟩
  have HPX : ∀ (v : Bool), preB s3 ⟨#[61]⟩ = v → Hid (∀ u, Calls Try.prog 27 #[.string s3, .string ⟨#[61]⟩] u fun e w' => e = .returned (.bool v) ∧ u = w') := fun v hv => Lib.hid (fun u => by have h := Try.strings_HasPrefix s3 ⟨#[61]⟩ u; rw [show Lib.hasPrefix s3.data.toList (⟨#[61]⟩ : ByteArray).data.toList = v from hv] at h; exact h.mono fun _ _ ⟨h1, h2⟩ => ⟨h1, h2.symm⟩)
  by_cases h61 : [61].isPrefixOf (nums s3) = true
  rotate_left
  · have h61' : [61].isPrefixOf (nums s3) = false := Bool.eq_false_iff.2 h61
    have HX := HPX false (hpx.trans h61')
    have HN := Lib.hid (show partD (nums s) = none by
      rw [HP.out, if_neg hAe, if_neg hBe]
      split
      · rename_i t e; rw [e] at h61; simp at h61
      · rfl)
    clear hAe hBe hpx HPX h61 h61'
    go_enter Try.func32, Try.ntmps32
    go_wp2_with fail
    refine (w1.out _ q0).mono ?_
    rintro e w' ⟨rfl, rfl⟩
    have q1 := q0.set s1
    generalize W0.setCell ⟨b, 0, none⟩ (.string s1) = W1 at q1 ⊢
    go_wp2_with fail
    refine (w2.out _ q1).mono ?_
    rintro e w' ⟨rfl, rfl⟩
    have q2 := q1.set s2
    generalize W1.setCell ⟨b, 0, none⟩ (.string s2) = W2 at q2 ⊢
    go_wp2_with fail
    refine (w3.out _ q2).mono ?_
    rintro e w' ⟨rfl, rfl⟩
    have q3 := q2.set s3
    generalize W2.setCell ⟨b, 0, none⟩ (.string s3) = W3 at q3 ⊢
    have c0 := q3.out.cell 0 rfl
    have c1 := q3.out.cell 1 rfl
    have f0 := q3.out.free 0
    have f1 := q3.out.free 1
    have d0 := q3.blk.cell 0 rfl
    have d1 := q3.blk.free 0
    go_wp2_with fail
    refine (HX.out _).mono ?_
    rintro e w' ⟨rfl, rfl⟩
    go_wp2_with fail
    refine bodyPost_ret (results_cell2 rfl _ _ _ _ _ rfl ((q3.out.set 0 _).set 1 _) Try.underlying38 rfl (by kernel_rfl)) rfl ?_
    exact q3.no HN.out l3
  obtain ⟨t4, ht4⟩ : ∃ t, nums s3 = 61 :: t := by
    obtain ⟨u, hu⟩ := List.isPrefixOf_iff_prefix.1 h61
    exact ⟨u, hu.symm⟩
  have HX := HPX true (hpx.trans h61)
  have z3 : 1 ≤ s3.size := by rw [← nums_length, ht4]; simp
  have z3' : (1 : Int) ≤ (s3.size : Int) := by omega
  obtain ⟨s4, hs4⟩ : ∃ x, s3.extract 1 s3.size = x := ⟨_, rfl⟩
  have hl3 := nums_length s3
  rw [ht4, List.length_cons] at hl3
  have n4 : nums s4 = t4 := by rw [← hs4, nums_extD, ht4]; show t4.take _ = t4; exact List.take_of_length_le (by omega)
  have l4 : s4.size ≤ s.size := by refine Nat.le_trans ?_ l3; rw [← nums_length, ← nums_length, n4, ht4]; simp
  obtain ⟨D, hD⟩ : ∃ x, strOfNums ((nums s4).takeWhile whN) = x := ⟨_, rfl⟩
  obtain ⟨s5, hs5⟩ : ∃ x, strOfNums ((nums s4).dropWhile whN) = x := ⟨_, rfl⟩
  have n5 : nums s5 = t4.dropWhile whN := by rw [← hs5, nums_strOfNums _ (isBs_drop (nums_isBs _) _), n4]
  have l5 : s5.size ≤ s.size := by refine Nat.le_trans ?_ l4; rw [← nums_length, ← nums_length, n5, n4]; exact drop_len _ _
  have w5 := Lib.hid (fun (W : World) (q : PIn w W b P s4) => by have h := while_white b s4 W (by omega) (q.blk.cell 0 rfl) (q.blk.free 0); rw [hD, hs5] at h; exact h)
  have HP := Lib.hid (show partD (nums s) = (valD (nums s5)).map fun p => ((nums B, p.1), p.2) by rw [HP.out, if_neg hAe, if_neg hBe, ht4, n5]; rfl)
  have e5 := empty_iff s5
  have eBn := strOfNums_nums B
  clear hpx HPX h61 hAe hBe hD hs5 n5 n4 ht4
  cases hn5 : nums s5 with
  | nil =>
    rw [hn5, decide_eq_true rfl] at e5
    have HN := Lib.hid (show partD (nums s) = none by rw [HP.out, hn5]; rfl)
    clear hn5
    go_enter Try.func32, Try.ntmps32
    go_wp2_with fail
    refine (w1.out _ q0).mono ?_
    rintro e w' ⟨rfl, rfl⟩
    have q1 := q0.set s1
    generalize W0.setCell ⟨b, 0, none⟩ (.string s1) = W1 at q1 ⊢
    go_wp2_with fail
    refine (w2.out _ q1).mono ?_
    rintro e w' ⟨rfl, rfl⟩
    have q2 := q1.set s2
    generalize W1.setCell ⟨b, 0, none⟩ (.string s2) = W2 at q2 ⊢
    go_wp2_with fail
    refine (w3.out _ q2).mono ?_
    rintro e w' ⟨rfl, rfl⟩
    have q3 := q2.set s3
    generalize W2.setCell ⟨b, 0, none⟩ (.string s3) = W3 at q3 ⊢
    have d0 := q3.blk.cell 0 rfl
    have d1 := q3.blk.free 0
    go_wp2_with fail
    refine (HX.out _).mono ?_
    rintro e w' ⟨rfl, rfl⟩
    go_wp2_with fail
    have q4 := q3.set s4
    generalize W3.setCell ⟨b, 0, none⟩ (.string s4) = W4 at q4 ⊢
    refine (w5.out _ q4).mono ?_
    rintro e w' ⟨rfl, rfl⟩
    have q5 := q4.set s5
    generalize W4.setCell ⟨b, 0, none⟩ (.string s5) = W5 at q5 ⊢
    have c0 := q5.out.cell 0 rfl
    have c1 := q5.out.cell 1 rfl
    have f0 := q5.out.free 0
    have f1 := q5.out.free 1
    have g0 := q5.blk.cell 0 rfl
    have g1 := q5.blk.free 0
    go_wp2_with fail
    refine bodyPost_ret (results_cell2 rfl _ _ _ _ _ rfl ((q5.out.set 0 _).set 1 _) Try.underlying38 rfl (by kernel_rfl)) rfl ?_
    exact q5.no HN.out l5
  | cons c v =>
    rw [hn5, decide_eq_false (by simp)] at e5
    have z5 : 0 < s5.size := by rw [← nums_length, hn5]; simp
    have hc5 : (s5[0].toNat : Int) = c := by
      have h := nums_drop s5 0 z5
      rw [List.drop_zero, hn5] at h
      injection h with h1 h2
      exact h1.symm
    have hix := index_str s5 0 z5 c 0 hc5 rfl
    have z5' : (0 : Int) < (s5.size : Int) := by omega
    have z5'' : (1 : Int) ≤ (s5.size : Int) := by omega
    by_cases hq : c = 34 ∨ c = 39
    rotate_left
    · have c34 : (c != 34) = true := by simpa using fun e => hq (.inl e)
      have c39 : (c != 39) = true := by simpa using fun e => hq (.inr e)
      have HN := Lib.hid (show partD (nums s) = none by rw [HP.out, hn5, valD, if_neg hq]; rfl)
      clear hn5 hq hc5
      go_enter Try.func32, Try.ntmps32
      go_wp2_with fail
      refine (w1.out _ q0).mono ?_
      rintro e w' ⟨rfl, rfl⟩
      have q1 := q0.set s1
      generalize W0.setCell ⟨b, 0, none⟩ (.string s1) = W1 at q1 ⊢
      go_wp2_with fail
      refine (w2.out _ q1).mono ?_
      rintro e w' ⟨rfl, rfl⟩
      have q2 := q1.set s2
      generalize W1.setCell ⟨b, 0, none⟩ (.string s2) = W2 at q2 ⊢
      go_wp2_with fail
      refine (w3.out _ q2).mono ?_
      rintro e w' ⟨rfl, rfl⟩
      have q3 := q2.set s3
      generalize W2.setCell ⟨b, 0, none⟩ (.string s3) = W3 at q3 ⊢
      have d0 := q3.blk.cell 0 rfl
      have d1 := q3.blk.free 0
      go_wp2_with fail
      refine (HX.out _).mono ?_
      rintro e w' ⟨rfl, rfl⟩
      go_wp2_with fail
      have q4 := q3.set s4
      generalize W3.setCell ⟨b, 0, none⟩ (.string s4) = W4 at q4 ⊢
      refine (w5.out _ q4).mono ?_
      rintro e w' ⟨rfl, rfl⟩
      have q5 := q4.set s5
      generalize W4.setCell ⟨b, 0, none⟩ (.string s5) = W5 at q5 ⊢
      have c0 := q5.out.cell 0 rfl
      have c1 := q5.out.cell 1 rfl
      have f0 := q5.out.free 0
      have f1 := q5.out.free 1
      have g0 := q5.blk.cell 0 rfl
      have g1 := q5.blk.free 0
      go_wp2_with fail
      refine bodyPost_ret (results_cell2 rfl _ _ _ _ _ rfl ((q5.out.set 0 _).set 1 _) Try.underlying38 rfl (by kernel_rfl)) rfl ?_
      exact q5.no HN.out l5
    · obtain ⟨T, hT⟩ : ∃ x, s5.extract 1 s5.size = x := ⟨_, rfl⟩
      obtain ⟨S, hS⟩ : ∃ x, s5.extract 0 1 = x := ⟨_, rfl⟩
      have hl5 := nums_length s5
      rw [hn5, List.length_cons] at hl5
      have nT : nums T = v := by rw [← hT, nums_extD, hn5]; show v.take _ = v; exact List.take_of_length_le (by omega)
      have lT : T.size ≤ s.size := by refine Nat.le_trans ?_ l5; rw [← nums_length, ← nums_length, nT, hn5]; simp
      have nS : S.data.toList = [s5[0]] := by
        rw [← hS, ByteArray.data_extract, Array.toList_extract]
        have e : s5.data.toList = s5[0] :: s5.data.toList.tail := by
          cases e : s5.data.toList with
          | nil => have : s5.size = 0 := by rw [← nums_length]; unfold nums; rw [e]; rfl
                   omega
          | cons x y =>
            have : s5[0] = x := by
              show s5.data[0] = x
              rw [← Array.getElem_toList]
              simp [e]
            rw [this]; rfl
        rw [e]; simp
      have hidx : Lib.index T.data.toList S.data.toList = posI (posN c v) := by rw [nS, idx_one, numsL_of, nT, hc5]
      have hcut := cut_pos _ _ _ hidx
      rw [nS] at hcut
      have HCUT := Lib.hid (fun (W : World) (hmw : MaxAt W m) => by have h := Try.strings_Cut T S m W (by omega) hmw; rw [nS, hcut] at h; exact h)
      have HV := Lib.hid (show partD (nums s) = (posN c v).map fun i => ((nums B, v.take i), v.drop (i + 1)) by
        rw [HP.out, hn5, valD, if_pos hq]
        cases posN c v <;> rfl)
      have hvb : isBs v := by rw [← nT]; exact nums_isBs _
      have hTn : numsL T.data.toList = v := by rw [numsL_of, nT]
      clear hn5 hidx hcut nS nT hc5
      have HQ : ((c != 34) = false) ∨ ((c != 34) = true ∧ (c != 39) = false) := by
        by_cases e : c = 34
        · exact .inl (by simpa using e)
        · exact .inr ⟨by simpa using e, by simpa using hq.resolve_left e⟩
      cases hpv : posN c v with
      | none =>
        have hn : partD (nums s) = none := by rw [HV.out, hpv]; rfl
        rw [hpv] at HCUT
        refine part_good b P s s1 s2 s3 s4 s5 A B C D T S ⟨T.data.toList.toArray⟩ ⟨([] : List UInt8).toArray⟩ false c w W0 hP hbl hW0 q0 w1 w2 w3 w5 eA eB e5 HX z3' hs4 z5' z5'' hT hS hix HQ (Lib.hid fun W q => HCUT.out W (q.max hm hc)) (Lib.hid fun W q => ?_)
        exact q.fin B _ false (by rw [hn]; rfl) (Nat.zero_le _) (fun p hp => by rw [hn] at hp; cases hp)
      | some i =>
        have hn : partD (nums s) = some ((nums B, v.take i), v.drop (i + 1)) := by rw [HV.out, hpv]; rfl
        rw [hpv] at HCUT
        have e1 : (⟨(T.data.toList.take i).toArray⟩ : ByteArray) = strOfNums (v.take i) := by rw [← hTn, ← numsL_take, ← numsL_mk, strOfNums_nums]
        have e2 : nums (⟨(T.data.toList.drop (i + 1)).toArray⟩ : ByteArray) = v.drop (i + 1) := by rw [numsL_mk, numsL_drop, hTn]
        refine part_good b P s s1 s2 s3 s4 s5 A B C D T S ⟨(T.data.toList.take i).toArray⟩ ⟨(T.data.toList.drop (i + 1)).toArray⟩ true c w W0 hP hbl hW0 q0 w1 w2 w3 w5 eA eB e5 HX z3' hs4 z5' z5'' hT hS hix HQ (Lib.hid fun W q => HCUT.out W (q.max hm hc)) (Lib.hid fun W q => ?_)
        refine q.fin B _ true (by rw [hn]; rfl) ?_ (fun p hp => ?_)
        · rw [← nums_length, e2, List.length_drop]
          have := nums_length T
          rw [numsL_of] at hTn
          rw [hTn] at this
          omega
        · rw [hn] at hp
          cases hp
          exact ⟨eBn.symm, e1, e2⟩
end Go.Proofs.Ytaheooedcjjckaa
