/-
  Layer 16: the walk of events.fields.
-/
import Derived.Test.YteefopeclfojiaaEvP
import Derived.Test.YteefopeclfojiaaNm
namespace Go.Proofs.Yteefopeclfojiaa
open Go.RowKit
/-- names that were seen, as a map's pairs. -/
def seenM (l : List (ByteArray × ByteArray)) : List ((ByteArray × ByteArray) × Value) := l.map fun n => (n, .bool true)
theorem seenM_get (k : ByteArray × ByteArray) : ∀ l, nGet (seenM l) k = if inL k l then some (.bool true) else none
  | [] => rfl
  | n :: r => by
    have ih := seenM_get k r
    show (if k = n then some (Value.bool true) else nGet (seenM r) k) = _
    rw [ih]
    unfold inL
    rw [List.any_cons]
    by_cases h : k = n
    · rw [if_pos h, decide_eq_true h, Bool.true_or, if_pos rfl]
    · rw [if_neg h, decide_eq_false h, Bool.false_or]
theorem seenM_snoc (l : List (ByteArray × ByteArray)) (n : ByteArray × ByteArray) : seenM (l ++ [n]) = seenM l ++ [(n, .bool true)] := by simp [seenM]
theorem zBool (w : World) : (zeroValue 4).run Try.prog w = .ok (.bool false) w := by kernel_rfl
theorem seen_look {W : World} {b : Nat} {l : List (ByteArray × ByteArray)} (h : NMap W b (seenM l)) (x y : ByteArray) :
    (Instr.lookup 131 (.map (some b)) (.agg #[.string x, .string y]) false).run Try.prog W = .ok (.bool (inL (x, y) l)) W := by
  have h1 := h.lookup (t := 131) Try.underlying131 (.bool false) (zBool W) (x, y)
  rw [seenM_get] at h1
  rw [show nmV (x, y) = .agg #[.string x, .string y] from rfl] at h1
  rw [h1]
  cases inL (x, y) l <;> rfl
theorem seen_push {W : World} {b : Nat} {l : List (ByteArray × ByteArray)} (h : NMap W b (seenM l)) (x y : ByteArray) (hn : inL (x, y) l = false) :
    ∃ w', (Instr.mapUpdate 131 (.map (some b)) (.agg #[.string x, .string y]) (.bool true)).run Try.prog W = .ok () w' ∧ NMap w' b (seenM (l ++ [(x, y)])) ∧ W.grownBy w' (some b) := by
  obtain ⟨w', h1, h2, h3⟩ := h.push (t := 131) Try.underlying131 (x, y) (.bool true) (by rw [seenM_get, hn]; rfl)
  exact ⟨w', h1, by rw [seenM_snoc]; exact h2, h3⟩
set_option maxRecDepth 100000 in
set_option maxHeartbeats 4000000 in
theorem events_fields2 (e : Evt) (a : Option Addr) (n c : Nat) (w : World) (hk : e.k = 2) (hn : e.at_.length = n) :
    Calls Try.prog 95 #[evV e (.slice a n c)] w fun r w' => r = .returned (.bool (fldB e)) ∧ Below w.heap.size w w' := by
  obtain ⟨k, ⟨n1, n2⟩, at_, tx⟩ := e
  simp only at hk hn
  subst hk
  have hf : fldB ⟨2, (n1, n2), at_, tx⟩ = (emB n1 && emB n2 && decide (n = 0) && !emB tx) := by
    unfold fldB
    rw [if_pos rfl]
    subst hn
    cases at_ <;> rfl
  rw [hf]
  unfold evV
  have hb := fun n => (Below.refl w.heap.size w).alloc (Nat.le_refl _) (.cells #[.int .i8 2, .string n1, .string n2, .slice a n c, .string tx] 30)
  clear hf hn
  go_enter Try.func95, Try.ntmps95
  go_wp2_with fail
  all_goals
    go_ret
    exact ⟨ret_bool (by simp_all [emB]), hb _⟩
set_option maxRecDepth 100000 in
set_option maxHeartbeats 4000000 in
theorem events_fields1 (e : Evt) (a : Option Addr) (n c : Nat) (w : World) (hk : e.k = 1) (hn : e.at_.length = n) :
    Calls Try.prog 95 #[evV e (.slice a n c)] w fun r w' => r = .returned (.bool (fldB e)) ∧ Below w.heap.size w w' := by
  obtain ⟨k, ⟨n1, n2⟩, at_, tx⟩ := e
  simp only at hk hn
  subst hk
  have hf : fldB ⟨1, (n1, n2), at_, tx⟩ = (!emB n2 && decide (n = 0) && emB tx) := by
    unfold fldB
    rw [if_neg (by show ¬ (1 : Int) = 2; decide), if_pos rfl]
    subst hn
    cases at_ <;> rfl
  rw [hf]
  unfold evV
  have hb := fun n => (Below.refl w.heap.size w).alloc (Nat.le_refl _) (.cells #[.int .i8 1, .string n1, .string n2, .slice a n c, .string tx] 30)
  clear hf hn
  go_enter Try.func95, Try.ntmps95
  go_wp2_with fail
  all_goals
    go_ret
    exact ⟨ret_bool (by simp_all [emB]), hb _⟩
set_option maxRecDepth 100000 in
set_option maxHeartbeats 4000000 in
theorem events_fields3 (e : Evt) (a : Option Addr) (n c : Nat) (w : World) (h0 : e.k ≠ 0) (h1 : e.k ≠ 1) (h2 : e.k ≠ 2) :
    Calls Try.prog 95 #[evV e (.slice a n c)] w fun r w' => r = .returned (.bool (fldB e)) ∧ Below w.heap.size w w' := by
  obtain ⟨k, ⟨n1, n2⟩, at_, tx⟩ := e
  simp only at h0 h1 h2
  have hf : fldB ⟨k, (n1, n2), at_, tx⟩ = false := by
    unfold fldB
    rw [if_neg h2, if_neg h1, if_neg h0]
  rw [hf]
  unfold evV
  have hb := (Below.refl w.heap.size w).alloc (Nat.le_refl _) (.cells #[.int .i8 k, .string n1, .string n2, .slice a n c, .string tx] 30)
  have q0 : (k == 0) = false := by simpa using h0
  have q1 : (k == 1) = false := by simpa using h1
  have q2 : (k == 2) = false := by simpa using h2
  clear hf h0 h1 h2
  go_enter Try.func95, Try.ntmps95
  go_wp2_with fail
  all_goals
    go_ret
    exact ⟨rfl, hb⟩
/-- what lasts within the loop over attributes. -/
structure FdI (w : World) (be bm : Nat) (cs : Array Value) (l : List (ByteArray × ByteArray)) (wr : World) : Prop where
  ev : BlkAt wr be cs
  mp : NMap wr bm (seenM l)
  bl : Below be w wr
  lt : be < bm
theorem FdI.alloc {w : World} {be bm : Nat} {cs : Array Value} {l : List (ByteArray × ByteArray)} {wr : World} (h : FdI w be bm cs l wr) (o : Obj) : FdI w be bm cs l (wr.alloc o) :=
  ⟨h.ev.alloc o, h.mp.alloc o, h.bl.alloc (Nat.le_of_lt h.ev.lt) o, h.lt⟩
set_option maxRecDepth 100000 in
set_option maxHeartbeats 8000000 in
theorem events_fields0 (B : Nat) (e : Evt) (av : Value) (w : World) (hk : e.k = 0) (hr : CReads B w av e.at_.length (atC e.at_)) (hB : B ≤ w.heap.size) (hl : e.at_.length ≤ 140737488351232) :
    Calls Try.prog 95 #[evV e av] w fun r w' => r = .returned (.bool (fldB e)) ∧ Below w.heap.size w w' := by
  obtain ⟨k, ⟨n1, n2⟩, at_, tx⟩ := e
  simp only at hk hr hl
  subst hk
  have hr0 := hr
  obtain ⟨a, c, rfl, -⟩ := hr0
  obtain ⟨n, hn⟩ : ∃ n, at_.length = n := ⟨_, rfl⟩
  have HN := Lib.hid hn
  rw [hn] at hr hl ⊢
  obtain ⟨A, hA⟩ : ∃ A, attGo [] at_ = A := ⟨_, rfl⟩
  have hf : fldB ⟨0, (n1, n2), at_, tx⟩ = (A && !emB n2 && emB tx) := by
    unfold fldB
    rw [if_neg (by show ¬ (0 : Int) = 2; decide), if_neg (by show ¬ (0 : Int) = 1; decide), if_pos rfl, ← hA]
  rw [hf]
  have HA := Lib.hid (show attGo [] (at_.drop 0) = A from hA)
  unfold evV
  clear hf hn hA
  have hmm := @run_makeMap Try.prog
  have F0 : FdI w w.heap.size (w.heap.size + 1) #[.int .i8 0, .string n1, .string n2, .slice a n c, .string tx] [] ((w.alloc (.cells #[.int .i8 0, .string n1, .string n2, .slice a n c, .string tx] 30)).alloc (.map #[] 0)) := by
    have hb := (Below.refl w.heap.size w).alloc (Nat.le_refl _) (.cells #[.int .i8 0, .string n1, .string n2, .slice a n c, .string tx] 30)
    have h1 := NMap.made (w.alloc (.cells #[.int .i8 0, .string n1, .string n2, .slice a n c, .string tx] 30))
    rw [show (w.alloc (.cells #[.int .i8 0, .string n1, .string n2, .slice a n c, .string tx] 30)).heap.size = w.heap.size + 1 by simp] at h1
    exact ⟨(BlkAt.new w _ _).alloc _, h1, hb.alloc hb.size _, by omega⟩
  go_enter Try.func95, Try.ntmps95
  go_wp2_with fail
  all_goals
    clear hmm
    obtain ⟨be, hbe⟩ : ∃ b, w.heap.size = b := ⟨_, rfl⟩
    have HBE := Lib.hid hbe
    rw [hbe] at F0 ⊢
    clear hbe
    generalize (w.alloc (.cells #[.int .i8 0, .string n1, .string n2, .slice a n c, .string tx] 30)).alloc (.map #[] 0) = w1 at F0 ⊢
    go_loopw [50] (fun i wr => ∃ (j : Nat) (seen : List (ByteArray × ByteArray)), i = .int .i64 j ∧ j ≤ n ∧ Hid (attGo seen (at_.drop j) = A) ∧ FdI w be (be + 1) #[.int .i8 0, .string n1, .string n2, .slice a n c, .string tx] seen wr) (fun i _ => n - (intOf i).toNat)
    case atStart => exact ⟨0, [], rfl, by omega, HA, F0⟩
    case round =>
      clear F0 HA
      obtain ⟨j, seen, rfl, hj, HK, F⟩ := hrel
      by_cases hlt : j < n
      · obtain ⟨x, hx⟩ : ∃ x, at_[j]? = some x := ⟨_, List.getElem?_eq_getElem (by rw [HN.out]; exact hlt)⟩
        have hdr : at_.drop j = x :: at_.drop (j + 1) := by
          obtain ⟨h1, h2⟩ := List.getElem?_eq_some_iff.1 hx
          rw [← h2, List.drop_eq_getElem_cons h1]
        obtain ⟨b, off, cap, hv, c0, c1, c2⟩ := hr.attr F.bl (by rw [← HBE.out]; exact hB) j x hx
        cases hv
        obtain ⟨⟨x0, x1⟩, x2⟩ := x
        simp only at c0 c1 c2
        have hq := HK.out
        rw [hdr, attGo] at hq
        simp only at hq
        have F1 := F.alloc (.cells #[.string x0, .string x1, .string x2] 58)
        have hlk := seen_look F1.mp x0 x1
        clear hr hx hdr HK
        cases hin : inL (x0, x1) seen with
        | true =>
          rw [hin] at hlk hq
          have HQ := Lib.hid (show false = A from hq)
          clear hin hq
          go_wp2_with fail
          go_ret
          exact ⟨ret_bool (by rw [← HQ.out]; rfl), by rw [HBE.out]; exact F1.bl⟩
        | false =>
          rw [hin] at hlk hq
          cases hem : emB x1 with
          | true =>
            have q1 : (x1.toList == []) = true := by rw [emB_eq]; exact hem
            rw [hem] at hq
            have HQ := Lib.hid (show false = A from hq)
            clear hin hq hem
            go_wp2_with fail
            go_ret
            exact ⟨ret_bool (by rw [← HQ.out]; rfl), by rw [HBE.out]; exact F1.bl⟩
          | false =>
            have q1 : (x1.toList == []) = false := by rw [emB_eq]; exact hem
            rw [hem] at hq
            have HQ : Hid (attGo (seen ++ [(x0, x1)]) (at_.drop (j + 1)) = A) := Lib.hid (by simpa using hq)
            obtain ⟨w2, hup, hm2, hg2⟩ := seen_push F1.mp x0 x1 hin
            have F2 : FdI w be (be + 1) #[.int .i8 0, .string n1, .string n2, .slice (some ⟨b, off, none⟩) n c, .string tx] (seen ++ [(x0, x1)]) w2 :=
              ⟨F1.ev.grown hg2 (by intro e; injection e with e; omega), hm2, F1.bl.grown hg2 (Nat.le_of_lt F1.ev.lt) (fun k e => by cases e; omega), F1.lt⟩
            clear hin hq hem F1 F
            go_wp2_with fail
            exact ⟨⟨j + 1, _, by go_num, by omega, HQ, F2⟩, by simp [intOf]; omega⟩
      · rw [List.drop_eq_nil_of_le (by rw [HN.out]; omega)] at HK
        have HQ := Lib.hid (show true = A from HK.out)
        have hc1 := F.ev.cell 2 rfl
        have hc2 := F.ev.cell 4 rfl
        clear hr HK
        go_wp2_with fail
        all_goals
          go_ret
          exact ⟨ret_bool (by rw [← HQ.out]; simp_all [emB]), by rw [HBE.out]; exact F.bl⟩
theorem events_fields (B : Nat) (e : Evt) (av : Value) (w : World) (hr : CReads B w av e.at_.length (atC e.at_)) (hB : B ≤ w.heap.size) (hl : e.at_.length ≤ 140737488351232) :
    Calls Try.prog 95 #[evV e av] w fun r w' => r = .returned (.bool (fldB e)) ∧ Below w.heap.size w w' := by
  by_cases h0 : e.k = 0
  · exact events_fields0 B e av w h0 hr hB hl
  · obtain ⟨a, c, rfl, -⟩ := hr
    by_cases h1 : e.k = 1
    · exact events_fields1 e a _ c w h1 rfl
    · by_cases h2 : e.k = 2
      · exact events_fields2 e a _ c w h2 rfl
      · exact events_fields3 e a _ c w h0 h1 h2
end Go.Proofs.Yteefopeclfojiaa
