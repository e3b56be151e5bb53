/-
  Parts RsA RsB RsC RsD RsE RsM RsP RsN Nmr RsF RsG of this seat's texts, in one file: contracts of functions that the law reaches, and the plain laws behind them. No condition.
-/
import Derived.Test.YteefopeclfojiaaG9
import Derived.Test.YteefopeclfojiaaG11
import Derived.Test.YteefopeclfojiaaG1
import Derived.Test.YteefopeclfojiaaG5
import Derived.Test.YteefopeclfojiaaG6
import Derived.Deep.Upon
import Derived.Test.YteefopeclfojiaaG7
import Derived.Lib.AppendZeros
/- 
  Layer 23: names: Plain, Kind, named, plain of both sides.
 -/
namespace Go.Proofs.Yteefopeclfojiaa
open Go.RowKit
/-- RSS's names without a namespace of their own. -/
def plainB (n : NmT) : Bool := (n.1.toList == []) || (n.1.toList == [104, 116, 116, 112, 58, 47, 47, 112, 117, 114, 108, 46, 111, 114, 103, 47, 114, 115, 115, 47, 49, 46, 48, 47]) || (n.1.toList == [104, 116, 116, 112, 58, 47, 47, 109, 121, 46, 110, 101, 116, 115, 99, 97, 112, 101, 46, 99, 111, 109, 47, 114, 100, 102, 47, 115, 105, 109, 112, 108, 101, 47, 48, 46, 57, 47]) || (n.1.toList == [104, 116, 116, 112, 58, 47, 47, 98, 97, 99, 107, 101, 110, 100, 46, 117, 115, 101, 114, 108, 97, 110, 100, 46, 99, 111, 109, 47, 114, 115, 115, 50])
def kindR (n : NmT) : Int := if n.1.toList == [104, 116, 116, 112, 58, 47, 47, 119, 119, 119, 46, 119, 51, 46, 111, 114, 103, 47, 49, 57, 57, 57, 47, 48, 50, 47, 50, 50, 45, 114, 100, 102, 45, 115, 121, 110, 116, 97, 120, 45, 110, 115, 35] && n.2.toList == [82, 68, 70] then 2 else if plainB n && n.2.toList == [114, 115, 115] then 1 else 0
set_option maxHeartbeats 4000000 in
theorem rss_Plain (n : NmT) (w : World) : Calls Try.prog 55 #[.agg #[.string n.1, .string n.2]] w fun r w' => r = .returned (.bool (plainB n)) ∧ Below w.heap.size w w' := by
  unfold plainB
  obtain ⟨n1, n2⟩ := n
  simp only
  have hb := (Below.refl w.heap.size w).alloc (Nat.le_refl _) (.cells #[.string n1, .string n2] 24)
  cases h0 : (n1.toList == []) <;> cases h1 : (n1.toList == [104, 116, 116, 112, 58, 47, 47, 112, 117, 114, 108, 46, 111, 114, 103, 47, 114, 115, 115, 47, 49, 46, 48, 47]) <;> cases h2 : (n1.toList == [104, 116, 116, 112, 58, 47, 47, 109, 121, 46, 110, 101, 116, 115, 99, 97, 112, 101, 46, 99, 111, 109, 47, 114, 100, 102, 47, 115, 105, 109, 112, 108, 101, 47, 48, 46, 57, 47]) <;> cases h3 : (n1.toList == [104, 116, 116, 112, 58, 47, 47, 98, 97, 99, 107, 101, 110, 100, 46, 117, 115, 101, 114, 108, 97, 110, 100, 46, 99, 111, 109, 47, 114, 115, 115, 50])
  all_goals
    go_enter Try.func55, Try.ntmps55
    go_wp2_with fail
    go_ret
    exact ⟨rfl, hb⟩
set_option maxHeartbeats 4000000 in
theorem ref23_Plain (n : NmT) (w : World) : Calls Try.prog 56 #[.agg #[.string n.1, .string n.2]] w fun r w' => r = .returned (.bool (plainB n)) ∧ Below w.heap.size w w' := by
  unfold plainB
  obtain ⟨n1, n2⟩ := n
  simp only
  have hb := (Below.refl w.heap.size w).alloc (Nat.le_refl _) (.cells #[.string n1, .string n2] 24)
  cases h0 : (n1.toList == []) <;> cases h1 : (n1.toList == [104, 116, 116, 112, 58, 47, 47, 112, 117, 114, 108, 46, 111, 114, 103, 47, 114, 115, 115, 47, 49, 46, 48, 47]) <;> cases h2 : (n1.toList == [104, 116, 116, 112, 58, 47, 47, 109, 121, 46, 110, 101, 116, 115, 99, 97, 112, 101, 46, 99, 111, 109, 47, 114, 100, 102, 47, 115, 105, 109, 112, 108, 101, 47, 48, 46, 57, 47]) <;> cases h3 : (n1.toList == [104, 116, 116, 112, 58, 47, 47, 98, 97, 99, 107, 101, 110, 100, 46, 117, 115, 101, 114, 108, 97, 110, 100, 46, 99, 111, 109, 47, 114, 115, 115, 50])
  all_goals
    go_enter Try.func56, Try.ntmps56
    go_wp2_with fail
    go_ret
    exact ⟨rfl, hb⟩
set_option maxHeartbeats 4000000 in
theorem rss_Kind (n : NmT) (w : World) : Calls Try.prog 53 #[.agg #[.string n.1, .string n.2]] w fun r w' => r = .returned (.int .i8 (kindR n)) ∧ Below w.heap.size w w' := by
  unfold kindR
  obtain ⟨n1, n2⟩ := n
  simp only
  have hb := (Below.refl w.heap.size w).alloc (Nat.le_refl _) (.cells #[.string n1, .string n2] 24)
  have bX := RowAt.new w #[.string n1, .string n2] 24
  have HPc := Lib.hid (fun (W : World) => rss_Plain (n1, n2) W)
  cases hp : plainB (n1, n2) <;> cases h0 : (n1.toList == [104, 116, 116, 112, 58, 47, 47, 119, 119, 119, 46, 119, 51, 46, 111, 114, 103, 47, 49, 57, 57, 57, 47, 48, 50, 47, 50, 50, 45, 114, 100, 102, 45, 115, 121, 110, 116, 97, 120, 45, 110, 115, 35]) <;> cases h1 : (n2.toList == [82, 68, 70]) <;> cases h2 : (n2.toList == [114, 115, 115])
  all_goals
    go_enter Try.func53, Try.ntmps53
    go_wp2_with fail
    first
      | (go_ret; exact ⟨rfl, hb⟩)
      | (refine (HPc.out _).mono ?_
         rintro r w1 ⟨rfl, hb1⟩
         rw [hp]
         replace bX := bX.below hb1 bX.lt
         have f0 : w1.cell? ⟨w.heap.size, 0, none⟩ = some (.string n1) := bX.blk.cell 0 rfl
         have f1 : w1.cell? ⟨w.heap.size, 1, none⟩ = some (.string n2) := bX.blk.cell 1 rfl
         go_wp2_with fail
         go_ret
         exact ⟨rfl, bt hb hb1⟩)
set_option maxHeartbeats 4000000 in
theorem ref23_Kind (n : NmT) (w : World) : Calls Try.prog 54 #[.agg #[.string n.1, .string n.2]] w fun r w' => r = .returned (.int .i8 (kindR n)) ∧ Below w.heap.size w w' := by
  unfold kindR
  obtain ⟨n1, n2⟩ := n
  simp only
  have hb := (Below.refl w.heap.size w).alloc (Nat.le_refl _) (.cells #[.string n1, .string n2] 24)
  have bX := RowAt.new w #[.string n1, .string n2] 24
  have HPc := Lib.hid (fun (W : World) => ref23_Plain (n1, n2) W)
  have hx : ∀ a : List UInt8, (a == [82, 68, 70]) = true → (a == [114, 115, 115]) = true → False := by
    intro a h1 h2
    rw [beq_iff_eq] at h1 h2
    rw [h1] at h2
    exact absurd h2 (by decide)
  cases hp : plainB (n1, n2) <;> cases h0 : (n1.toList == [104, 116, 116, 112, 58, 47, 47, 119, 119, 119, 46, 119, 51, 46, 111, 114, 103, 47, 49, 57, 57, 57, 47, 48, 50, 47, 50, 50, 45, 114, 100, 102, 45, 115, 121, 110, 116, 97, 120, 45, 110, 115, 35]) <;> cases h1 : (n2.toList == [82, 68, 70]) <;> cases h2 : (n2.toList == [114, 115, 115])
  all_goals first
    | exact (hx _ h1 h2).elim
    | (go_enter Try.func54, Try.ntmps54
       go_wp2_with fail
       refine (HPc.out _).mono ?_
       rintro r w1 ⟨rfl, hb1⟩
       rw [hp]
       replace bX := bX.below hb1 bX.lt
       have f0 : w1.cell? ⟨w.heap.size, 0, none⟩ = some (.string n1) := bX.blk.cell 0 rfl
       have f1 : w1.cell? ⟨w.heap.size, 1, none⟩ = some (.string n2) := bX.blk.cell 1 rfl
       go_wp2_with fail
       go_ret
       exact ⟨rfl, bt hb hb1⟩)
end Go.Proofs.Yteefopeclfojiaa
/- 
  Layer 23: names: named, plain, core.
 -/
namespace Go.Proofs.Yteefopeclfojiaa
open Go.RowKit
/-- a name that is asked for: itself, or any of RSS's where it has no namespace. -/
def namedB (n m : NmT) : Bool := (n.2.toList == m.2.toList) && ((n.1.toList == m.1.toList) || ((m.1.toList == []) && plainB n))
set_option maxHeartbeats 4000000 in
theorem ref23_plain (s : ByteArray) (w : World) : Calls Try.prog 88 #[.string s] w fun r w' => r = .returned (.agg #[.string ⟨#[]⟩, .string s]) ∧ Below w.heap.size w w' := by
  have hb := (Below.refl w.heap.size w).alloc (Nat.le_refl _) (.cells #[.string ⟨#[]⟩, .string s] 24)
  have bk := BlkAt.new w #[.string ⟨#[]⟩, .string s] 24
  go_enter Try.func88, Try.ntmps88
  go_wp2_with fail
  exact bodyPost_ret (results_cell1 rfl _ _ _ _ _ rfl bk Try.underlying24 rfl (by kernel_rfl)) rfl ⟨rfl, hb⟩
set_option maxHeartbeats 4000000 in
theorem ref23_named (n m : NmT) (w : World) : Calls Try.prog 87 #[.agg #[.string n.1, .string n.2], .agg #[.string m.1, .string m.2]] w fun r w' => r = .returned (.bool (namedB n m)) ∧ Below w.heap.size w w' := by
  unfold namedB
  obtain ⟨n1, n2⟩ := n
  obtain ⟨m1, m2⟩ := m
  simp only
  have hb := ((Below.refl w.heap.size w).alloc (Nat.le_refl _) (.cells #[.string n1, .string n2] 24)).alloc (by simp) (.cells #[.string m1, .string m2] 24)
  have HPc := Lib.hid (fun (W : World) => ref23_Plain (n1, n2) W)
  have hne : ∀ x y : List UInt8, (x != y) = !(x == y) := fun _ _ => rfl
  have g2 := hne n2.toList m2.toList
  cases h0 : (n2.toList == m2.toList) <;> rw [h0] at g2
  · simp only [Bool.not_false] at g2
    go_enter Try.func87, Try.ntmps87
    go_wp2_with fail
    go_ret
    exact ⟨rfl, hb⟩
  · simp only [Bool.not_true] at g2
    cases h1 : (n1.toList == m1.toList) <;> cases h2 : (m1.toList == []) <;> cases hp : plainB (n1, n2)
    all_goals
      go_enter Try.func87, Try.ntmps87
      go_wp2_with fail
      first
        | (go_ret; exact ⟨rfl, hb⟩)
        | (refine (HPc.out _).mono ?_
           rintro r w1 ⟨rfl, hb1⟩
           rw [hp]
           go_wp2_with fail
           go_ret
           exact ⟨rfl, bt hb hb1⟩)
set_option maxHeartbeats 4000000 in
theorem law23_plain (s : ByteArray) (w : World) : Calls Try.prog 113 #[.string s] w fun r w' => r = .returned (.agg #[.string ⟨#[]⟩, .string s]) ∧ Below w.heap.size w w' := by
  have hb := (Below.refl w.heap.size w).alloc (Nat.le_refl _) (.cells #[.string ⟨#[]⟩, .string s] 24)
  have bk := BlkAt.new w #[.string ⟨#[]⟩, .string s] 24
  go_enter Try.func113, Try.ntmps113
  go_wp2_with fail
  exact bodyPost_ret (results_cell1 rfl _ _ _ _ _ rfl bk Try.underlying24 rfl (by kernel_rfl)) rfl ⟨rfl, hb⟩
set_option maxHeartbeats 4000000 in
theorem rss_core (s : ByteArray) (w : World) : Calls Try.prog 116 #[.string s] w fun r w' => r = .returned (.agg #[.string spC, .string s]) ∧ Below w.heap.size w w' := by
  have hb := (Below.refl w.heap.size w).alloc (Nat.le_refl _) (.cells #[.string ⟨#[104, 116, 116, 112, 58, 47, 47, 112, 117, 114, 108, 46, 111, 114, 103, 47, 100, 99, 47, 101, 108, 101, 109, 101, 110, 116, 115, 47, 49, 46, 49, 47]⟩, .string s] 24)
  have bk := BlkAt.new w #[.string ⟨#[104, 116, 116, 112, 58, 47, 47, 112, 117, 114, 108, 46, 111, 114, 103, 47, 100, 99, 47, 101, 108, 101, 109, 101, 110, 116, 115, 47, 49, 46, 49, 47]⟩, .string s] 24
  go_enter Try.func116, Try.ntmps116
  go_wp2_with fail
  exact bodyPost_ret (results_cell1 rfl _ _ _ _ _ rfl bk Try.underlying24 rfl (by kernel_rfl)) rfl ⟨rfl, hb⟩
set_option maxHeartbeats 4000000 in
theorem ref23_of (s : ByteArray) (w : World) : Calls Try.prog 120 #[.string s] w fun r w' => r = .returned (.agg #[.string spC, .string s]) ∧ Below w.heap.size w w' := by
  have hb := (Below.refl w.heap.size w).alloc (Nat.le_refl _) (.cells #[.string ⟨#[104, 116, 116, 112, 58, 47, 47, 112, 117, 114, 108, 46, 111, 114, 103, 47, 100, 99, 47, 101, 108, 101, 109, 101, 110, 116, 115, 47, 49, 46, 49, 47]⟩, .string s] 24)
  have bk := BlkAt.new w #[.string ⟨#[104, 116, 116, 112, 58, 47, 47, 112, 117, 114, 108, 46, 111, 114, 103, 47, 100, 99, 47, 101, 108, 101, 109, 101, 110, 116, 115, 47, 49, 46, 49, 47]⟩, .string s] 24
  go_enter Try.func120, Try.ntmps120
  go_wp2_with fail
  exact bodyPost_ret (results_cell1 rfl _ _ _ _ _ rfl bk Try.underlying24 rfl (by kernel_rfl)) rfl ⟨rfl, hb⟩
set_option maxHeartbeats 8000000 in
theorem rss_is (n m : NmT) (w : World) : Calls Try.prog 115 #[.agg #[.string n.1, .string n.2], .agg #[.string m.1, .string m.2]] w fun r w' => r = .returned (.bool (namedB n m)) ∧ Below w.heap.size w w' := by
  unfold namedB
  obtain ⟨n1, n2⟩ := n
  obtain ⟨m1, m2⟩ := m
  simp only
  have hb := ((Below.refl w.heap.size w).alloc (Nat.le_refl _) (.cells #[.string n1, .string n2] 24)).alloc (by simp) (.cells #[.string m1, .string m2] 24)
  have HPc := Lib.hid (fun (W : World) => rss_Plain (n1, n2) W)
  cases h0 : (n2.toList == m2.toList) <;> cases h1 : (n1.toList == m1.toList) <;> cases h2 : (m1.toList == []) <;> cases hp : plainB (n1, n2)
  all_goals
    go_enter Try.func115, Try.ntmps115
    go_wp2_with fail
    first
      | (go_ret; exact ⟨rfl, hb⟩)
      | (refine (HPc.out _).mono ?_
         rintro r w1 ⟨rfl, hb1⟩
         rw [hp]
         go_wp2_with fail
         go_ret
         exact ⟨rfl, bt hb hb1⟩)
end Go.Proofs.Yteefopeclfojiaa
/- 
  Layer 23: Space, Blank of both sides (as in layer 9, by themselves).
 -/
namespace Go.Proofs.Yteefopeclfojiaa
open Go.RowKit
def spB (r : Int) : Bool := decide (r = 32 ∨ r = 9 ∨ r = 10 ∨ r = 13)
theorem chars_Space (r : Int) (w : World) : Calls Try.prog 122 #[.int .i64 r] w fun e w' => e = .returned (.bool (spB r)) ∧ w = w' := by
  go_enter Try.func122, Try.ntmps122
  go_wp2
  all_goals
    go_light
    (try simp only [beq_iff_eq, beq_eq_false_iff_ne] at *)
    go_ret
    refine ⟨ret_bool ?_, rfl⟩
    unfold spB
    rw [Bool.eq_iff_iff]
    simp
    try omega
theorem ref09_Space (r : Int) (w : World) : Calls Try.prog 94 #[.int .i64 r] w fun e w' => e = .returned (.bool (spB r)) ∧ w = w' := by
  go_enter Try.func94, Try.ntmps94
  go_wp2
  all_goals
    go_light
    (try simp only [beq_iff_eq, beq_eq_false_iff_ne] at *)
    go_ret
    refine ⟨ret_bool ?_, rfl⟩
    unfold spB
    rw [Bool.eq_iff_iff]
    simp
    try omega
def blankN (l : List Int) : Bool := l.all spB
theorem blank_step {l : List Int} {k : Nat} (h : k < l.length) : (l.drop k).all spB = (spB l[k] && (l.drop (k + 1)).all spB) := by rw [List.drop_eq_getElem_cons h]; rfl
set_option maxHeartbeats 1000000 in
theorem ref09_Blank (s : ByteArray) (w : World) (hs : s.size ≤ 137438953472) :
    Calls Try.prog 58 #[.string s] w fun e w' => e = .returned (.bool (blankN (nums s))) ∧ w = w' := by
  go_enter Try.func58, Try.ntmps58
  go_wp2_with fail
  go_loop [3] (fun i => ∃ k : Nat, i = .int .i64 k ∧ k ≤ s.size ∧ ((nums s).drop k).all spB = blankN (nums s)) (fun i => s.size - (intOf i).toNat)
  case atStart => exact ⟨0, rfl, by omega, rfl⟩
  case round =>
    obtain ⟨k, rfl, hk, hq⟩ := hrel
    by_cases hlt : k < s.size
    · obtain ⟨c, hc⟩ : ∃ c : Int, (s[k].toNat : Int) = c := ⟨_, rfl⟩
      have hidx := index_str s k hlt c k hc rfl
      rw [blank_step (by rw [nums_length]; exact hlt), nums_at s k hlt, hc] at hq
      have hc0 : 0 ≤ c ∧ c < 256 := by have := s[k].toNat_lt; omega
      clear hc
      cases hsp : spB c with
      | false =>
        have HS := Lib.hid hsp
        have HB := Lib.hid (show blankN (nums s) = false by rw [← hq, hsp]; rfl)
        clear hq hsp
        go_wp2_with (go_at_call 94; refine (ref09_Space c _).mono ?_; rw [HS.out]; rintro e w' ⟨rfl, rfl⟩)
        go_ret
        exact ⟨ret_bool HB.out.symm, rfl⟩
      | true =>
        have HS := Lib.hid hsp
        have HB := Lib.hid (show ((nums s).drop (k + 1)).all spB = blankN (nums s) by rw [← hq, hsp]; rfl)
        clear hq hsp
        go_wp2_with (go_at_call 94; refine (ref09_Space c _).mono ?_; rw [HS.out]; rintro e w' ⟨rfl, rfl⟩)
        exact ⟨⟨k + 1, by go_num, by omega, HB.out⟩, by simp [intOf]; omega⟩
    · have HB := Lib.hid (show blankN (nums s) = true by rw [← hq, nums_drop_end s k (by omega)]; rfl)
      clear hq
      go_wp2
      go_ret
      exact ⟨ret_bool HB.out.symm, rfl⟩
set_option maxRecDepth 100000 in
set_option maxHeartbeats 1000000 in
theorem chars_Blank (s : ByteArray) (w : World) (hs : s.size ≤ 137438953472) :
    Calls Try.prog 92 #[.string s] w fun e w' => e = .returned (.bool (blankN (nums s))) ∧ Below w.heap.size w w' := by
  have hcv := Lib.run_convert_string_bytes (P := Try.prog) w 9 112 5 s Try.underlying9 Try.underlying112 Try.underlying5
  obtain ⟨cap, hcap⟩ : ∃ cap, grownCap w s.size 0 5 = cap := ⟨_, rfl⟩
  have hrow := LowRow.made w 5 s
  have hbl := bytes_below w 5 s
  obtain ⟨w1, hw1⟩ : ∃ w1, Lib.bytesWorld w 5 s = w1 := ⟨_, rfl⟩
  rw [hcap, hw1] at hcv
  rw [hw1] at hrow hbl
  clear hw1 hcap
  obtain ⟨p, hp⟩ : ∃ p, w.heap.size = p := ⟨_, rfl⟩
  have HP := Lib.hid hp
  rw [hp] at hcv hrow hbl
  clear hp
  go_enter Try.func92, Try.ntmps92
  go_wp2
  go_loop [8] (fun i => ∃ k : Nat, i = .int .i64 k ∧ k ≤ s.size ∧ ((nums s).drop k).all spB = blankN (nums s)) (fun i => s.size - (intOf i).toNat)
  case atStart => exact ⟨0, rfl, by omega, rfl⟩
  case round =>
    obtain ⟨k, rfl, hk, hq⟩ := hrel
    by_cases hlt : k < s.size
    · have hca := hrow.cellAt k (by rw [nums_length]; exact hlt)
      obtain ⟨c, hc⟩ : ∃ c : Int, (s[k].toNat : Int) = c := ⟨_, rfl⟩
      rw [nums_at s k hlt, hc] at hca
      rw [blank_step (by rw [nums_length]; exact hlt), nums_at s k hlt, hc] at hq
      have hc0 : 0 ≤ c ∧ c < 256 := by have := s[k].toNat_lt; omega
      clear hc
      cases hsp : spB c with
      | false =>
        have HS := Lib.hid hsp
        have HB := Lib.hid (show blankN (nums s) = false by rw [← hq, hsp]; rfl)
        clear hq hsp
        go_wp2_with (go_at_call 122; refine (chars_Space c _).mono ?_; rw [HS.out]; rintro e w' ⟨rfl, rfl⟩)
        go_ret
        exact ⟨ret_bool HB.out.symm, by rw [HP.out]; exact hbl⟩
      | true =>
        have HS := Lib.hid hsp
        have HB := Lib.hid (show ((nums s).drop (k + 1)).all spB = blankN (nums s) by rw [← hq, hsp]; rfl)
        clear hq hsp
        go_wp2_with (go_at_call 122; refine (chars_Space c _).mono ?_; rw [HS.out]; rintro e w' ⟨rfl, rfl⟩)
        exact ⟨⟨k + 1, by go_num, by omega, HB.out⟩, by simp [intOf]; omega⟩
    · have HB := Lib.hid (show blankN (nums s) = true by rw [← hq, nums_drop_end s k (by omega)]; rfl)
      clear hq
      go_wp2
      go_ret
      exact ⟨ret_bool HB.out.symm, by rw [HP.out]; exact hbl⟩
end Go.Proofs.Yteefopeclfojiaa
/- 
  Layer 23: part: an element's events by themselves.
 -/
namespace Go.Proofs.Yteefopeclfojiaa
open Go.RowKit
set_option maxRecDepth 100000 in
set_option maxHeartbeats 4000000 in
theorem rss_part (B : Nat) (es : List Evt) (b off cap p j : Nat) (g : Gr) (w : World) (hr : EvsR B w (.slice (some ⟨b, off, none⟩) es.length cap) es) (hB : B ≤ w.heap.size) (hn : es.length ≤ 9999) (hz : ∀ e ∈ es, e.at_.length ≤ 140737488351232) (hg : atP es p = some g) (he : endV g p = .int .i64 j) (h1 : p < j) (h2 : j < es.length) (hc : es.length ≤ cap) (hcm : cap ≤ maxLen) :
    Calls Try.prog 85 #[.slice (some ⟨b, off, none⟩) es.length cap, .int .i64 p] w fun r w' => r = .returned (.slice (some ⟨b, off + p * 5, none⟩) (j + 1 - p) (cap - p)) ∧ Below w.heap.size w w' := by
  have hE := events_End B es _ p w hr hB (by omega) hz
  rw [hg] at hE
  have HE := Lib.hid hE
  clear hE hr
  go_enter Try.func85, Try.ntmps85
  go_wp2_with fail
  refine HE.out.mono ?_
  rintro r w1 ⟨hb1, rfl⟩
  rw [he]
  unfold maxLen at hcm
  go_wp2_with fail
  go_ret
  exact ⟨rfl, hb1⟩
set_option maxRecDepth 100000 in
set_option maxHeartbeats 4000000 in
theorem ref23_part (B : Nat) (es : List Evt) (b off cap p j : Nat) (g : Gr) (w : World) (hr : EvsR B w (.slice (some ⟨b, off, none⟩) es.length cap) es) (hB : B ≤ w.heap.size) (hn : es.length ≤ 9999) (hz : ∀ e ∈ es, e.at_.length ≤ 140737488351232) (hg : atP es p = some g) (he : endV g p = .int .i64 j) (h1 : p < j) (h2 : j < es.length) (hc : es.length ≤ cap) (hcm : cap ≤ maxLen) :
    Calls Try.prog 90 #[.slice (some ⟨b, off, none⟩) es.length cap, .int .i64 p] w fun r w' => r = .returned (.slice (some ⟨b, off + p * 5, none⟩) (j + 1 - p) (cap - p)) ∧ Below w.heap.size w w' := by
  have hE := ref16_End B es _ p w hr hB (by omega) hz
  rw [hg] at hE
  have HE := Lib.hid hE
  clear hE hr
  go_enter Try.func90, Try.ntmps90
  go_wp2_with fail
  refine HE.out.mono ?_
  rintro r w1 ⟨hb1, rfl⟩
  rw [he]
  unfold maxLen at hcm
  go_wp2_with fail
  go_ret
  exact ⟨rfl, hb1⟩
end Go.Proofs.Yteefopeclfojiaa
/- 
  Layer 23: the walk of the iterator over children of a name.
 -/
namespace Go.Proofs.Yteefopeclfojiaa
open Go.RowKit Go.Sort
attribute [local go_sem] Oper.semAt_some
/-- is it an event of a name? -/
def nmK (es : List Evt) (nm : NmT) (k : Nat) : Bool := ((es[k]?).map fun e => namedB e.n nm).getD false
/-- the children of a name. -/
def namedR (es : List Evt) (i : Int) (nm : NmT) : List Nat := (kidsP es i).filter (nmK es nm)
theorem nmK_of {es : List Evt} {k : Nat} {y : Evt} (h : es[k]? = some y) (nm : NmT) : nmK es nm k = namedB y.n nm := by unfold nmK; rw [h]; rfl
theorem namedR_mem {es : List Evt} {i : Int} {nm : NmT} {x : Nat} (h : x ∈ namedR es i nm) : x < es.length ∧ nmK es nm x = true ∧ x ∈ kidsP es i := by
  unfold namedR at h
  obtain ⟨h1, h2⟩ := List.mem_filter.1 h
  exact ⟨kidsP_mem h1, h2, h1⟩
theorem namedR_len (es : List Evt) (i : Int) (nm : NmT) : (namedR es i nm).length ≤ es.length := Nat.le_trans (List.length_filter_le _ _) (kidsP_len es i)
/-- the types of what an iterator over children of a name reads. -/
def rTs : List TypeId := [3, 22, 24]
/-- what the iterator reads. -/
structure RkAt (Bl Bi Bn : Nat) (v : Value) (i : Int) (nm : NmT) (W : World) : Prop where
  bl : Boxed W Bl 22 v
  bi : Boxed W Bi 3 (.int .i64 i)
  bn : RowAt W Bn 24 #[.string nm.1, .string nm.2]
theorem RkAt.keep {Bl Bi Bn : Nat} {v : Value} {i : Int} {nm : NmT} {W W' : World} (h : RkAt Bl Bi Bn v i nm W) (hk : KeepsT rTs W W') : RkAt Bl Bi Bn v i nm W' :=
  ⟨hk.boxed h.bl (by simp [rTs]), hk.boxed h.bi (by simp [rTs]), h.bn.keep hk (by simp [rTs])⟩
set_option maxRecDepth 100000 in
set_option maxHeartbeats 8000000 in
theorem rkids1_in (B : Nat) (es : List Evt) (n : Nat) (hn : 3 ≤ n) (l Bl Bi Bn : Nat) (v : Value) (i : Int) (nm : NmT) (hes : es.length ≤ 999999) (hz : ∀ e ∈ es, e.at_.length ≤ 140737488351232) (J Jx : List Nat → World → Prop) (B0 : Nat) (hab : AbidesM NoMu B0 J)
    (W : World) (hr : EvsR B W v es) (hB : B ≤ W.heap.size)
    (hY : ∀ pre x W1, J pre W1 → (pre ++ [x]) <+: namedR es i nm → pre.length < 1000000 → YieldAt Fence.wide (n - 1) Try.prog l #[.int .i64 (x : Nat)] W1 fun e W' =>
      (e = .returned (.bool true) ∧ J (pre ++ [x]) W' ∧ (KeepsT rTs W1 W' ∧ Below B W1 W')) ∨ (e = .returned (.bool false) ∧ Jx (pre ++ [x]) W'))
    (hT : RkAt Bl Bi Bn v i nm W) (h0 : J [] W) :
    CallsIn Fence.wide n Try.prog 114 #[.func (.yield l) #[] #[], .pointer (some ⟨Bl, 0, none⟩), .pointer (some ⟨Bi, 0, none⟩), .pointer (some ⟨Bn, 0, none⟩)] W fun e' W' => (∃ v, e' = .returned v) ∧
      (J (namedR es i nm) W' ∨ (∃ pre, pre <+: namedR es i nm ∧ Jx pre W')) := by
  have hn1 : 1 ≤ n := by omega
  have hna : namedR es i nm = (kidsP es i).filter (nmK es nm) := rfl
  obtain ⟨N, hN⟩ : ∃ N, namedR es i nm = N := ⟨_, rfl⟩
  rw [hN] at hY hna ⊢
  refine callsIn_of_wp Try.func114 rfl trivial ?_ rfl
  simp only [Try.ntmps114, List.size_toArray, List.length_cons, List.length_nil, Nat.reduceAdd, Nat.reduceSub, Array.replicate_succ, Array.replicate_zero, List.push_toArray, List.append_toArray, List.nil_append, List.cons_append]
  have c0 := hT.bl.cell
  have c1 := hT.bi.cell
  have KK := Lib.hid (events_Kids B es v i W hr hB hes hz)
  obtain ⟨avs, ⟨a, cap, rfl, -⟩, -⟩ := id hr
  gi_wp2_with (refine ⟨trivial, ?_⟩; gi_at_call 18; refine (callsIn_wide.2 KK.out).mono ?_; rintro r w1 ⟨ku, rfl, hrow, hb1⟩; obtain ⟨ka, kc, rfl, hcells⟩ := kid_row hrow)
  clear c0 c1 KK hcells
  have T1 := hT.keep (KeepsT.below hb1)
  have J1 := abides_below hab h0 hb1
  have hbB : Below B W w1 := hb1.mono hB
  have hmem : ∀ x ∈ kidsP es i, x < es.length := fun x hx => kidsP_mem hx
  have hkl := kidsP_len es i
  obtain ⟨K, hK⟩ : ∃ K, kidsP es i = K := ⟨_, rfl⟩
  rw [hK] at hrow hmem hkl hna ⊢
  obtain ⟨m, hm⟩ : ∃ m, K.length = m := ⟨_, rfl⟩
  have HM := Lib.hid hm
  rw [hm] at hkl hrow ⊢
  have HNA := Lib.hid hna
  have HMEM := Lib.hid hmem
  obtain ⟨nn, hnn⟩ : ∃ n, es.length = n := ⟨_, rfl⟩
  have HNN := Lib.hid hnn
  rw [hnn] at hr hes hkl T1 ⊢
  have hBd := Lib.hid hB
  clear hT h0 hb1 hz hna hmem hK hm hN hnn hB
  gi_wp2_with fail
  gi_loopw [11] (fun q wr => ∃ j : Nat, q = .int .i64 j ∧ j ≤ m ∧ J ((K.take j).filter (nmK es nm)) wr ∧ RkAt Bl Bi Bn (.slice a nn cap) i nm wr ∧ wr.ownsRow W.heap.size 3 1 (.slice ka m kc) m ((natC K).map (Value.int .i64)) ∧ Below B W wr) (fun q _ => m - (intOf q).toNat)
  case atStart => exact ⟨0, rfl, by omega, J1, T1, hrow, hbB⟩
  case round =>
    clear J1 T1 hrow hbB
    obtain ⟨j, rfl, hj, hJ, hT, hrow, hbl⟩ := hrel
    by_cases hlt : j < m
    · have hd := decide_eq_true (show (j : Int) < (m : Int) by omega)
      obtain ⟨x, hx⟩ : ∃ x, K[j]? = some x := ⟨_, List.getElem?_eq_getElem (by rw [HM.out]; exact hlt)⟩
      obtain ⟨kg, hkg⟩ : ∃ kg, ka = some ⟨kg, 0, none⟩ := by
        rcases hrow.2 with ⟨h1, h2⟩ | ⟨g', cp, cur, h1, -⟩
        · omega
        · injection h1 with h2
          exact ⟨g', h2⟩
      subst hkg
      have kcell : wr.cell? ⟨kg, j, none⟩ = some (.int .i64 (x : Int)) := by
        have h1 := hrow.cells (g := kg) rfl j (.int .i64 (x : Int)) (by unfold natC; rw [List.map_map, List.getElem?_map, hx]; rfl)
        rwa [addr0, Nat.zero_add] at h1
      have hxn := HMEM.out x (List.mem_of_getElem? hx)
      rw [HNN.out] at hxn
      obtain ⟨y, hy⟩ : ∃ y, es[x]? = some y := ⟨_, List.getElem?_eq_getElem (by rw [HNN.out]; exact hxn)⟩
      obtain ⟨b, off, cap', av, hv, hbB, c0, c1, c2, -⟩ := hr.get hbl (Nat.le_refl _) x y hy
      rw [HNN.out] at hv
      cases hv
      have hfs := filter_step (P := nmK es nm) hx
      have d0 := hT.bl.cell
      have d2 : wr.cell? ⟨Bn, 0, none⟩ = some (.string nm.1) := hT.bn.blk.cell 0 rfl
      have d3 : wr.cell? ⟨Bn, 1, none⟩ = some (.string nm.2) := hT.bn.blk.cell 1 rfl
      have HR := Lib.hid hr
      have HX := Lib.hid hx
      rw [nmK_of hy] at hfs
      have cN := fun (d : Nat) (os : Array Obj) => CallsIn.regrown_of (callsIn_wide (n := n - 1).2 (rss_is y.n nm (Go.Sort.grow (redrawn wr d) os)))
      have HJ := Lib.hid hJ
      have HT := Lib.hid hT
      have HRW := Lib.hid hrow
      have k0 := cell_regrown d0
      have k2 := cell_regrown d2
      have k3 := cell_regrown d3
      have k4 := cell_regrown c1
      have k5 := cell_regrown c2
      clear hr hy hx hJ hT hrow c0
      cases hnm : namedB y.n nm with
      | true =>
        rw [hnm] at cN
        rw [hnm, if_pos rfl] at hfs
        have HFS := Lib.hid hfs
        clear hfs hnm
        gi_wp2_with fail
        refine wpIn_region_below_tail 10 (by kernel_rfl) (by kernel_rfl) (by kernel_rfl) ?_
        simp only [List.take_succ_cons, List.take_zero, List.drop_succ_cons, List.drop_zero]
        repeat (refine wpQuietIn_step (askedR (fun _ => trivial)) (fun K hK => ?_); go_simp; first | (refine hK _ ?_; clear hK K) | (apply Exists.intro; refine ⟨fun _ => ?_, hK _ ?_⟩; (first | exact cN _ _ | exact ⟨trivial, cN _ _⟩ | skip); clear hK K))
        clear k0 k2 k3 k4 k5 d0 d2 d3 c1 c2 kcell cN
        refine wpQuietIn_nil ?_
        rintro w4 ⟨⟨dq, osq⟩, hw4⟩
        have hb4 : Below wr.heap.size wr w4 := by rw [hw4]; exact below_regrown wr dq osq
        clear hw4
        have hBw : B ≤ wr.heap.size := Nat.le_trans hBd.out hbl.size
        have J4 := abides_below hab HJ.out hb4
        have T4 := HT.out.keep (KeepsT.below hb4)
        have R4 := (KeepsT.below (Ts := rTs) hb4).row HRW.out (by simp [rTs])
        have hbl4 := hbl.trans (hb4.mono hBw)
        have hpl : ((K.take j).filter (nmK es nm)).length ≤ j := Nat.le_trans (List.length_filter_le _ _) (by rw [List.length_take]; omega)
        have hYW := hY _ x w4 J4 (by rw [← HFS.out, HNA.out]; exact (List.take_prefix _ _).filter _) (by omega)
        obtain ⟨fn, tmps, assign, body, hy, hR2⟩ := hYW
        clear hY J4 HJ HT HRW hb4 hpl
        gi_wp2_with fail
        refine hR2.mono ?_
        rintro e' W3 (⟨rfl, hJ3, hk3, hb3⟩ | ⟨rfl, hJx3⟩)
        · have T5 := T4.keep hk3
          have R5 := hk3.row R4 (by simp [rTs])
          have hbl5 := hbl4.trans hb3
          clear hk3 T4 R4 hbl4 hb3 hy hR2
          gi_wp2_with fail
          go_roundw
          case rel => exact ⟨j + 1, by go_num, by omega, by rw [HFS.out]; exact hJ3, T5, R5, hbl5⟩
          case measure => simp [intOf]; omega
        · have HP := Lib.hid (show ((K.take j).filter (nmK es nm)) ++ [x] <+: N by rw [← HFS.out, HNA.out]; exact (List.take_prefix _ _).filter _)
          clear hy hR2 T4 R4
          gi_wp2_with fail
          refine bodyPost_ret (results_none rfl _ _ _) rfl ?_
          exact ⟨⟨_, rfl⟩, .inr ⟨_, HP.out, hJx3⟩⟩
      | false =>
        rw [hnm] at cN
        rw [hnm, if_neg Bool.false_ne_true, List.append_nil] at hfs
        have HFS := Lib.hid hfs
        clear hfs hnm hY
        gi_wp2_with fail
        refine wpIn_region_below_tail 10 (by kernel_rfl) (by kernel_rfl) (by kernel_rfl) ?_
        simp only [List.take_succ_cons, List.take_zero, List.drop_succ_cons, List.drop_zero]
        repeat (refine wpQuietIn_step (askedR (fun _ => trivial)) (fun K hK => ?_); go_simp; first | (refine hK _ ?_; clear hK K) | (apply Exists.intro; refine ⟨fun _ => ?_, hK _ ?_⟩; (first | exact cN _ _ | exact ⟨trivial, cN _ _⟩ | skip); clear hK K))
        clear k0 k2 k3 k4 k5 d0 d2 d3 c1 c2 kcell cN
        refine wpQuietIn_nil ?_
        rintro w4 ⟨⟨dq, osq⟩, hw4⟩
        have hb4 : Below wr.heap.size wr w4 := by rw [hw4]; exact below_regrown wr dq osq
        clear hw4
        gi_wp2_with (refine ⟨fun f h => (by cases h), ?_⟩; apply_assumption -exfalso -symm)
        go_roundw
        case rel => exact ⟨j + 1, by go_num, by omega, by rw [HFS.out]; exact abides_below hab HJ.out hb4, HT.out.keep (KeepsT.below hb4), (KeepsT.below (Ts := rTs) hb4).row HRW.out (by simp [rTs]), hbl.trans (hb4.mono (Nat.le_trans hBd.out hbl.size))⟩
        case measure => simp [intOf]; omega
    · have hd := decide_eq_false (show ¬ (j : Int) < (m : Int) by omega)
      have hfin : ((K.take j).filter (nmK es nm)) = N := by rw [HNA.out, List.take_of_length_le (by rw [HM.out]; omega)]
      rw [hfin] at hJ
      clear hY hr hfin hT hrow
      gi_wp2_with fail
      go_end0
      exact ⟨⟨_, rfl⟩, .inl hJ⟩
/-- .. as what an iterator owes. -/
theorem rkids_stops (B : Nat) (es : List Evt) (n : Nat) (hn : 3 ≤ n) (Bl Bi Bn : Nat) (v : Value) (i : Int) (nm : NmT) (hes : es.length ≤ 999999) (hz : ∀ e ∈ es, e.at_.length ≤ 140737488351232) (w : World) (hr : EvsR B w v es) (hB : B ≤ w.heap.size) (hT : RkAt Bl Bi Bn v i nm w) :
    SeqStopsP NoMu Fence.wide n Try.prog 114 #[.pointer (some ⟨Bl, 0, none⟩), .pointer (some ⟨Bi, 0, none⟩), .pointer (some ⟨Bn, 0, none⟩)] (fun x : Nat => #[.int .i64 (x : Nat)]) (fun A C => KeepsT rTs A C ∧ Below B A C) (fun ys => ys = namedR es i nm) (fun pre => pre <+: namedR es i nm) 1000000 w := fun l J Jx W hW hJ hJx hY h0 => by
  have h := rkids1_in B es n hn l Bl Bi Bn v i nm hes hz J Jx W.heap.size hJ W (hr.below hW hB) (Nat.le_trans hB hW.size) hY (hT.keep (KeepsT.below hW)) h0
  refine h.mono ?_
  rintro e' W' ⟨hv, h | h⟩
  · exact ⟨hv, .inl ⟨_, rfl, h⟩⟩
  · exact ⟨hv, .inr h⟩
theorem rss_kids_in (F : Fence) (n : Nat) (h27 : F.fn 82) (hro : F.round = none) (a : Option Addr) (k c : Nat) (i : Int) (nm : NmT) (w : World) :
    CallsIn F n Try.prog 82 #[.slice a k c, .int .i64 i, .agg #[.string nm.1, .string nm.2]] w fun e w' => e = .returned (.func (.func 114) #[] #[.pointer (some ⟨w.heap.size, 0, none⟩), .pointer (some ⟨w.heap.size + 1, 0, none⟩), .pointer (some ⟨w.heap.size + 2, 0, none⟩)]) ∧ w' = ((w.alloc (.cells #[.slice a k c] 22)).alloc (.cells #[.int .i64 i] 3)).alloc (.cells #[.string nm.1, .string nm.2] 24) := by
  refine callsIn_of_wp Try.func82 rfl h27 ?_ hro
  simp only [Try.ntmps82, List.size_toArray, List.length_cons, List.length_nil, Nat.reduceAdd, Nat.reduceSub, Array.replicate_succ, Array.replicate_zero, List.push_toArray, List.append_toArray, List.nil_append, List.cons_append]
  gi_wp2
  go_ret
  exact ⟨by simp, rfl⟩
end Go.Proofs.Yteefopeclfojiaa
/- 
  Marks that ranges over functions leave among a call's deferred calls: any number of them.
 -/
namespace Go.Proofs.Yteefopeclfojiaa
open Go.RowKit
/-- the marks of ranges that came to their end. -/
def marks (Ds : List Nat) : List Deferred := Ds.map fun D => { target := .collected D, args := #[] }
structure MarksAt (lo : Nat) (Ds : List Nat) (W : World) : Prop where
  nd : Ds.Nodup
  pl : ∀ D ∈ Ds, lo ≤ D ∧ W.heap[D]? = some (.deferred (some []))
theorem MarksAt.nil (lo : Nat) (W : World) : MarksAt lo [] W := ⟨List.nodup_nil, fun D h => by cases h⟩
theorem MarksAt.lt {lo : Nat} {Ds : List Nat} {W : World} (h : MarksAt lo Ds W) : ∀ D ∈ Ds, D < W.heap.size := fun D hD => (Array.getElem?_eq_some_iff.1 (h.pl D hD).2).1
theorem MarksAt.kept {lo : Nat} {Ds : List Nat} {W W' : World} (h : MarksAt lo Ds W) (hk : ∀ D ∈ Ds, W'.heap[D]? = W.heap[D]?) : MarksAt lo Ds W' := ⟨h.nd, fun D hD => ⟨(h.pl D hD).1, (hk D hD).trans (h.pl D hD).2⟩⟩
theorem MarksAt.up {lo : Nat} {Ds : List Nat} {W W' : World} (h : MarksAt lo Ds W) (hb : Below W.heap.size W W') : MarksAt lo Ds W' := h.kept fun D hD => hb.block D (h.lt D hD)
theorem MarksAt.keepO {lo : Nat} {Ds : List Nat} {W W' : World} (h : MarksAt lo Ds W) (hk : KeepsOthers W W') : MarksAt lo Ds W' := ⟨h.nd, fun D hD => ⟨(h.pl D hD).1, hk.same D _ (h.pl D hD).2 rfl⟩⟩
theorem MarksAt.cons {lo D : Nat} {Ds : List Nat} {W : World} (h : MarksAt lo Ds W) (hn : D ∉ Ds) (hl : lo ≤ D) (hD : W.heap[D]? = some (.deferred (some []))) : MarksAt lo (D :: Ds) W :=
  ⟨List.nodup_cons.2 ⟨hn, h.nd⟩, fun E hE => by
    rcases List.mem_cons.1 hE with rfl | hE
    · exact ⟨hl, hD⟩
    · exact h.pl E hE⟩
theorem leaves_marks {F : Fence} {n : Nat} {P : Program} {fn : Func} {tmps : Array Value} {R : Ending → World → Prop} {lo : Nat} : ∀ (Ds : List Nat) (W : World), MarksAt lo Ds W →
    (∀ W', Below lo W W' → (∀ a v, W.cell? a = some v → W'.cell? a = some v) → ∃ v, (results fn tmps).run P W' = .ok v W' ∧ R (.returned v) W') → LeavesInM F n P fn tmps R (marks Ds) .returning W
  | [], W, _, h => h W (Below.refl _ _) fun _ _ h => h
  | D :: Ds, W, hm, h => by
    obtain ⟨h1, h2⟩ := hm.pl D (List.mem_cons_self ..)
    have hg := grownBy_putObj' W D (.deferred none)
    have hr : ∀ r, some D = some r → ∃ o : Obj, W.heap[r]? = some o ∧ o.isCells = false := fun r e => by cases e; exact ⟨_, h2, rfl⟩
    refine ⟨by simp, .inl ⟨D, W.putObj D (.deferred none), rfl, run_takeDeferred h2, leaves_marks (lo := lo) Ds _ ?_ ?_⟩⟩
    · refine ⟨(List.nodup_cons.1 hm.nd).2, fun E hE => ⟨(hm.pl E (List.mem_cons_of_mem _ hE)).1, ?_⟩⟩
      have hne : D ≠ E := fun e => (List.nodup_cons.1 hm.nd).1 (e ▸ hE)
      exact (World.putObj_heap_other (fun e => hne e.symm)).trans (hm.pl E (List.mem_cons_of_mem _ hE)).2
    · intro W' hb hk
      exact h W' ((below_putObj h1 h2 rfl).trans hb) fun a v hv => hk a v (cell_kept hv hg hr)
end Go.Proofs.Yteefopeclfojiaa
/- 
  Layer 23 in plain terms: fields, what is found in a channel or an item, the raw feed.
 -/
namespace Go.Proofs.Yteefopeclfojiaa
open Go.RowKit
def spRdf : ByteArray := ⟨#[104, 116, 116, 112, 58, 47, 47, 119, 119, 119, 46, 119, 51, 46, 111, 114, 103, 47, 49, 57, 57, 57, 47, 48, 50, 47, 50, 50, 45, 114, 100, 102, 45, 115, 121, 110, 116, 97, 120, 45, 110, 115, 35]⟩
def spCon : ByteArray := ⟨#[104, 116, 116, 112, 58, 47, 47, 112, 117, 114, 108, 46, 111, 114, 103, 47, 114, 115, 115, 47, 49, 46, 48, 47, 109, 111, 100, 117, 108, 101, 115, 47, 99, 111, 110, 116, 101, 110, 116, 47]⟩
/-- a name without a namespace. -/
def plN (s : ByteArray) : NmT := (⟨#[]⟩, s)
/-- a text that is not blank. -/
def gdB (s : ByteArray) : Option ByteArray := if blankN (nums s) then none else some s
/-- the text of the first child of a name whose text is not blank. -/
def fldK (es : List Evt) (nm : NmT) : Option ByteArray := (namedR es 0 nm).findSome? fun k : Nat => gdB (strOfNums (textP es (k : Int)))
/-- a field: the first of some names that has a text. -/
def fieldF (f : NmT → Option ByteArray) : List NmT → Nat → ByteArray × Int
  | [], _ => (⟨#[]⟩, -1)
  | n :: ns, k => match f n with
    | some s => (s, (k : Int))
    | none => fieldF f ns (k + 1)
def fieldP (es : List Evt) (ns : List NmT) : ByteArray × Int := fieldF (fldK es) ns 0
/-- where fields are found. -/
structure FormT where
  id : List NmT
  author : List NmT
  content : List NmT
  date : List NmT
  about : Bool
def headF : FormT := ⟨[(spC, ⟨#[105, 100, 101, 110, 116, 105, 102, 105, 101, 114]⟩)], [(spC, ⟨#[99, 114, 101, 97, 116, 111, 114]⟩)], [(spC, ⟨#[100, 101, 115, 99, 114, 105, 112, 116, 105, 111, 110]⟩)], [plN ⟨#[108, 97, 115, 116, 66, 117, 105, 108, 100, 68, 97, 116, 101]⟩, plN ⟨#[112, 117, 98, 68, 97, 116, 101]⟩, (spC, ⟨#[100, 97, 116, 101]⟩)], false⟩
def idsF (fmt : Int) : List NmT := if fmt = 1 then [plN ⟨#[103, 117, 105, 100]⟩, (spC, ⟨#[105, 100, 101, 110, 116, 105, 102, 105, 101, 114]⟩)] else [(spC, ⟨#[105, 100, 101, 110, 116, 105, 102, 105, 101, 114]⟩)]
def itemF (fmt : Int) : FormT := ⟨idsF fmt, [plN ⟨#[97, 117, 116, 104, 111, 114]⟩, (spC, ⟨#[99, 114, 101, 97, 116, 111, 114]⟩)], [(spCon, ⟨#[101, 110, 99, 111, 100, 101, 100]⟩), plN ⟨#[100, 101, 115, 99, 114, 105, 112, 116, 105, 111, 110]⟩, (spC, ⟨#[100, 101, 115, 99, 114, 105, 112, 116, 105, 111, 110]⟩), plN ⟨#[115, 117, 109, 109, 97, 114, 121]⟩], [plN ⟨#[112, 117, 98, 68, 97, 116, 101]⟩, (spC, ⟨#[100, 97, 116, 101]⟩)], decide (fmt = 2)⟩
def titleN : List NmT := [plN ⟨#[116, 105, 116, 108, 101]⟩, (spC, ⟨#[116, 105, 116, 108, 101]⟩)]
def linkN : List NmT := [plN ⟨#[108, 105, 110, 107]⟩]
def aboutN : NmT := (spRdf, ⟨#[97, 98, 111, 117, 116]⟩)
def chanN : NmT := plN ⟨#[99, 104, 97, 110, 110, 101, 108]⟩
def itN : NmT := plN ⟨#[105, 116, 101, 109]⟩
/-- the id: what is told of the element, if it is asked for and not blank; else the field. -/
def idF (ab : Bool) (a : Option ByteArray) (s : ByteArray) : ByteArray := if ab then (match a with | some a => if blankN (nums a) then s else a | none => s) else s
def kindD (k : Int) (n : Nat) : Int := if k < 0 then 0 else if k = (n : Int) - 1 then 3 else 1
/-- what is found, of the fields and of what is told of the element. -/
def foundF (f : List NmT → ByteArray × Int) (a : Option ByteArray) (F : FormT) : Itm :=
  ⟨idF F.about a (f F.id).1, (f titleN).1, (f linkN).1, (f F.author).1, (f F.content).1, (f F.date).1, kindD (f F.date).2 F.date.length⟩
def foundP (es : List Evt) (F : FormT) : Itm := foundF (fieldP es) (attrP es 0 aboutN) F
/-- an element's events. -/
def partP (es : List Evt) (k : Nat) : List Evt := match (growP es).bind fun g => endO g k with
  | none => []
  | some j => (es.drop k).take (j + 1 - k)
def itemsP (es : List Evt) (i : Nat) (fmt : Int) : List Itm := (namedR es i itN).map fun k => foundP (partP es k) (itemF fmt)
def kindP (es : List Evt) : Int := if (growP es).isSome then ((es[0]?).map fun e => kindR e.n).getD 0 else 0
/-- the raw feed. -/
def feedR (es : List Evt) : RawT := if kindP es = 0 then rawNone else ⟨kindP es,
  match (namedR es 0 chanN).head? with
  | none => Itm.none
  | some c => foundP (partP es c) headF,
  (match (namedR es 0 chanN).head? with
  | none => []
  | some c => if kindP es = 1 then itemsP es c (kindP es) else []) ++ itemsP es 0 (kindP es)⟩
theorem fieldF_ge (f : NmT → Option ByteArray) : ∀ (ns : List NmT) (k : Nat), ((fieldF f ns k).2 = -1 ∧ (fieldF f ns k).1 = ⟨#[]⟩ ∧ ∀ n ∈ ns, f n = none) ∨ (∃ j s, (fieldF f ns k) = (s, ((k + j : Nat) : Int)) ∧ j < ns.length ∧ ∃ n ∈ ns, f n = some s)
  | [], k => .inl ⟨rfl, rfl, fun n h => by cases h⟩
  | n :: ns, k => by
    rw [fieldF]
    cases h : f n with
    | some s => exact .inr ⟨0, s, rfl, by simp, n, List.mem_cons_self .., h⟩
    | none =>
      simp only
      rcases fieldF_ge f ns (k + 1) with ⟨h1, h2, h3⟩ | ⟨j, s, h1, h2, m, h3, h4⟩
      · refine .inl ⟨h1, h2, fun m hm => ?_⟩
        rcases List.mem_cons.1 hm with rfl | hm
        · exact h
        · exact h3 m hm
      · exact .inr ⟨j + 1, s, by rw [h1]; congr 2; omega, by simp; omega, m, List.mem_cons_of_mem _ h3, h4⟩
theorem fieldF_app (f : NmT → Option ByteArray) (b : List NmT) : ∀ (a : List NmT) (k : Nat), fieldF f (a ++ b) k = if (fieldF f a k).2 < 0 then fieldF f b (k + a.length) else fieldF f a k
  | [], k => by rw [List.nil_append, fieldF, if_pos (by show (-1 : Int) < 0; decide)]; rfl
  | n :: ns, k => by
    rw [List.cons_append, fieldF, fieldF]
    cases h : f n with
    | some s => simp only; rw [if_neg (by omega)]
    | none => simp only; rw [fieldF_app f b ns (k + 1), List.length_cons, show k + 1 + ns.length = k + (ns.length + 1) by omega]
theorem fieldF_up (f : NmT → Option ByteArray) : ∀ (ns : List NmT) (k d : Nat), fieldF f ns (k + d) = ((fieldF f ns k).1, if (fieldF f ns k).2 < 0 then -1 else (fieldF f ns k).2 + d)
  | [], k, d => by rw [fieldF, fieldF, if_pos (by show (-1 : Int) < 0; decide)]
  | n :: ns, k, d => by
    rw [fieldF, fieldF]
    cases h : f n with
    | some s => simp only; rw [if_neg (by omega)]; congr 1
    | none => simp only; rw [show k + d + 1 = (k + 1) + d by omega, fieldF_up f ns (k + 1) d]
theorem gd_nb {s t : ByteArray} (h : gdB s = some t) : t = s ∧ blankN (nums t) = false := by
  unfold gdB at h
  cases hb : blankN (nums s) with
  | true => rw [hb, if_pos rfl] at h; cases h
  | false => rw [hb, if_neg Bool.false_ne_true] at h; cases h; exact ⟨rfl, hb⟩
theorem fld_nb {es : List Evt} {n : NmT} {s : ByteArray} (h : fldK es n = some s) : blankN (nums s) = false := by
  obtain ⟨k, -, hk⟩ := List.exists_of_findSome?_eq_some h
  exact (gd_nb hk).2
/-- a field's text is not blank, or it is none. -/
theorem fieldP_or (es : List Evt) (ns : List NmT) : fieldP es ns = (⟨#[]⟩, -1) ∨ ∃ j s, fieldP es ns = (s, ((j : Nat) : Int)) ∧ j < ns.length ∧ blankN (nums s) = false := by
  rcases fieldF_ge (fldK es) ns 0 with ⟨h1, h2, -⟩ | ⟨j, s, h1, h2, n, -, h4⟩
  · left
    unfold fieldP
    rw [← h1, ← h2]
  · right
    exact ⟨j, s, by unfold fieldP; rw [h1, Nat.zero_add], h2, fld_nb h4⟩
theorem fieldP_app (es : List Evt) (a b : List NmT) : fieldP es (a ++ b) = if (fieldP es a).2 < 0 then ((fieldP es b).1, if (fieldP es b).2 < 0 then -1 else (fieldP es b).2 + a.length) else fieldP es a := by
  unfold fieldP
  rw [fieldF_app, fieldF_up (fldK es) b 0 a.length]
theorem fieldP_at {es : List Evt} {ns : List NmT} {k : Nat} (h : k < ns.length) : fieldF (fldK es) (ns.drop k) k = match fldK es ns[k] with
    | some s => (s, (k : Int))
    | none => fieldF (fldK es) (ns.drop (k + 1)) (k + 1) := by
  rw [List.drop_eq_getElem_cons h, fieldF]
theorem blank_nil : blankN (nums ⟨#[]⟩) = true := by rw [nums_nil]; rfl
end Go.Proofs.Yteefopeclfojiaa
/- 
  Layer 23: rows of names, of the call's own and read; the walk of rss.plain.
 -/
namespace Go.Proofs.Yteefopeclfojiaa
open Go.RowKit
/-- a row of names that reads. -/
def NsR (w : World) (v : Value) (ns : List NmT) : Prop := CReads w.heap.size w v ns.length (nmC ns)
theorem NsR.below {w w' : World} {v : Value} {ns : List NmT} (h : NsR w v ns) (hb : Below w.heap.size w w') : NsR w' v ns := (CReads.below h hb (Nat.le_refl _)).mono hb.size
theorem NsR.form {w : World} {v : Value} {ns : List NmT} (h : NsR w v ns) : ∃ a c, v = .slice a ns.length c := by
  obtain ⟨a, c, rfl, -⟩ := h
  exact ⟨a, c, rfl⟩
theorem NsR.at_ {w : World} {a : Option Addr} {n c : Nat} {ns : List NmT} (h : NsR w (.slice a n c) ns) {k : Nat} {m : NmT} (hk : ns[k]? = some m) {C : Nat} {u : World} (hu : Below C w u) (hC : w.heap.size ≤ C) :
    ∃ q o, a = some ⟨q, o, none⟩ ∧ q < w.heap.size ∧ u.cell? ⟨q, o + k * 2, none⟩ = some (.string m.1) ∧ u.cell? ⟨q, o + k * 2 + 1, none⟩ = some (.string m.2) := by
  obtain ⟨a', c', hv, h⟩ := h
  cases hv
  obtain ⟨h1, h2⟩ := nmC_at ns k m hk
  obtain ⟨q, o, rfl, hq, c1⟩ := h _ _ h1
  obtain ⟨q2, o2, he, -, c2⟩ := h _ _ h2
  cases he
  exact ⟨q, o, rfl, hq, (hu.cell (p := ⟨q, o + k * 2, none⟩) (by show q < C; omega)).trans c1, (hu.cell (p := ⟨q, o + k * 2 + 1, none⟩) (by show q < C; omega)).trans c2⟩
/-- a row of names of the call's own. -/
def OwnN (base : Nat) (w : World) (v : Value) (ns : List NmT) : Prop := w.ownsRow base 24 2 v ns.length (nmC ns)
theorem OwnN.nil (base : Nat) (w : World) : OwnN base w (.slice none 0 0) [] := World.ownsRow_nil _ _ _ _
theorem OwnN.reads {base : Nat} {w : World} {v : Value} {ns : List NmT} (h : OwnN base w v ns) : NsR w v ns := CReads.of_own h
theorem OwnN.below {base : Nat} {w w' : World} {v : Value} {ns : List NmT} (h : OwnN base w v ns) (hb : Below w.heap.size w w') : OwnN base w' v ns := own_below h hb (Nat.le_refl _)
theorem OwnN.form {base : Nat} {w : World} {v : Value} {ns : List NmT} (h : OwnN base w v ns) : ∃ a c, v = .slice a ns.length c := h.reads.form
theorem nmC_app (a b : List NmT) : nmC (a ++ b) = nmC a ++ nmC b := by unfold nmC; rw [List.flatMap_append]
theorem nmC_one (l : List NmT) : ∀ u ∈ nmC l, u.oneCell' = true := by
  intro u hu
  unfold nmC at hu
  obtain ⟨n, -, h⟩ := List.mem_flatMap.1 hu
  simp at h
  rcases h with rfl | rfl <;> rfl
theorem OwnN.lit {w : World} {ns : List NmT} (C : Array Value) (hC : C.toList = nmC ns) (n : Nat) (hn : ns.length = n) (hm : n ≤ 1000000) :
    OwnN w.heap.size (w.alloc (.cells C 24)) (.slice (some ⟨w.heap.size, 0, none⟩) n n) ns := by
  have hl := nmC_len ns
  subst hn
  refine ⟨hl, .inr ⟨w.heap.size, ns.length, C, rfl, Nat.le_refl _, heap_alloc_new w _, Nat.le_refl _, by unfold maxLen; omega, ?_, ?_⟩⟩
  · rw [← Array.length_toList, hC, hl]
  · rw [hC, List.take_of_length_le (by omega)]
set_option maxRecDepth 100000 in
/-- 'append(a, b...)'. -/
theorem OwnN.app {base : Nat} {w : World} {v u : Value} {ns ms : List NmT} (h : OwnN base w v ns) (k : NsR w u ms) (hbase : base ≤ w.heap.size) (hn : ns.length + ms.length ≤ 1000000) :
    ∃ a c w', (Builtin.append_ #[38, 38] 38 #[v, u]).run Try.prog w = .ok (.slice a (ns ++ ms).length c) w' ∧ OwnN base w' (.slice a (ns ++ ms).length c) (ns ++ ms) ∧ Below base w w' := by
  obtain ⟨i0, hi, hz0, hz1, hz2⟩ := info_parts infoNm
  obtain ⟨a, c, rfl, hc⟩ := k
  cases a with
  | none =>
    have hms : ms = [] := by
      cases ms with
      | nil => rfl
      | cons m r =>
        obtain ⟨b, off, hh, -⟩ := hc 0 (.string m.1) rfl
        cases hh
    subst hms
    obtain ⟨x, y, rfl⟩ := h.form
    have hlc : ns.length ≤ y := by
      obtain ⟨a', c', h5, h6, -⟩ := own_capR h
      injection h5 with h7 h8 h9
      omega
    refine ⟨x, y, w, ?_, ?_, Below.refl _ _⟩
    · rw [List.append_nil]
      exact run_append_nothing w _ _ _ _ i0 Try.underlying38 hi x ns.length y hlc _ ⟨.inl ⟨_, Try.underlying38⟩, fun _ => rfl, rfl, rfl, by simp, by simp⟩
    · rw [List.append_nil]
      exact h
  | some ad =>
    obtain ⟨v', w', hrun, k1, k2, _⟩ := run_append_own (P := Try.prog) w base 38 38 24 i0 _ 2 32 Try.underlying38 hi hz0 hz1 hz2 rfl (by decide) v ns.length _ h ad ms.length c (nmC ms) (nmC_len ms)
      (fun j u hj => by
        obtain ⟨b, off, hbb, _, hcc⟩ := hc j u hj
        injection hbb with hbb
        subst hbb
        rw [show (⟨b, off, none⟩ : Addr).add j = ⟨b, off + j, none⟩ by unfold Addr.add; split <;> simp_all]
        exact hcc)
      (nmC_one ms) (by unfold maxLen; omega) (by omega) hbase
    rw [← nmC_app, ← List.length_append] at k1
    obtain ⟨a', c', rfl⟩ := OwnN.form (show OwnN base w' v' (ns ++ ms) from k1)
    exact ⟨a', c', w', hrun, k1, ownBelow h k2 (Nat.le_refl _) hbase⟩
/-- 'append(l, n)'. -/
theorem OwnN.app1 {base : Nat} {w : World} {v : Value} {ns : List NmT} (h : OwnN base w v ns) (m : NmT) (hbase : base ≤ w.heap.size) (hn : ns.length + 1 ≤ 1000000) :
    ∃ a c w', (Builtin.append_ #[38, 38] 38 #[v, .slice (some ⟨w.heap.size, 0, none⟩) 1 1]).run Try.prog (w.alloc (.cells #[.string m.1, .string m.2] 24)) = .ok (.slice a (ns.length + 1) c) w' ∧ OwnN base w' (.slice a (ns.length + 1) c) (ns ++ [m]) ∧ Below base w w' := by
  have hba := (Below.refl w.heap.size w).alloc (Nat.le_refl _) (.cells #[.string m.1, .string m.2] 24)
  have hl := OwnN.lit (w := w) (ns := [m]) #[.string m.1, .string m.2] rfl 1 rfl (by decide)
  obtain ⟨a, c, w', h1, h2, h3⟩ := (h.below hba).app hl.reads (by simp; omega) (by simpa using hn)
  have e : (ns ++ [m]).length = ns.length + 1 := by simp
  rw [e] at h1 h2
  exact ⟨a, c, w', h1, h2, (hba.mono hbase).trans h3⟩
set_option maxRecDepth 100000 in
set_option maxHeartbeats 4000000 in
theorem rss_plain (ls : List ByteArray) (sv : Value) (w : World) (hS : StrsAt w sv ls) (hls : ls.length ≤ 1000) :
    Calls Try.prog 117 #[sv] w fun r w' => ∃ a c, r = .returned (.slice a ls.length c) ∧ OwnN w.heap.size w' (.slice a ls.length c) (ls.map plN) ∧ Below w.heap.size w w' := by
  obtain ⟨a, cap, rfl, hq⟩ := hS
  have HQ := Lib.hid hq
  obtain ⟨n, hn⟩ : ∃ n, ls.length = n := ⟨_, rfl⟩
  have HN := Lib.hid hn
  rw [hn] at hls ⊢
  clear hq hn
  go_enter Try.func117, Try.ntmps117
  go_wp2
  go_loopw [2, 7] (fun v i wr => ∃ (k : Nat) (b : Option Addr) (c : Nat), i = .int .i64 k ∧ v = .slice b k c ∧ k ≤ n ∧ OwnN w.heap.size wr (.slice b k c) ((ls.take k).map plN) ∧ Below w.heap.size w wr) (fun _ i _ => n - (intOf i).toNat)
  case atStart => exact ⟨0, none, 0, rfl, rfl, Nat.zero_le _, OwnN.nil _ _, Below.refl _ _⟩
  case round =>
    obtain ⟨k, b, c, rfl, rfl, hk, hown, hbl⟩ := hrel
    by_cases hlt : k < n
    · have d0 := decide_eq_true (show (k : Int) < (n : Int) by omega)
      obtain ⟨q, o, rfl, hq, hc⟩ := HQ.out k (by rw [HN.out]; exact hlt)
      have hc1 : wr.cell? ⟨q, o + k, none⟩ = some (.string (ls[k]'(by rw [HN.out]; exact hlt))) := by rw [hbl.cell hq]; exact hc
      have hlk : ((ls.take k).map plN).length = k := by rw [List.length_map, List.length_take, HN.out]; omega
      obtain ⟨b', c', w', hrun, hown', hb'⟩ := hown.app1 (plN (ls[k]'(by rw [HN.out]; exact hlt))) hbl.size (by omega)
      rw [hlk] at hrun hown'
      have hst : (ls.take k).map plN ++ [plN (ls[k]'(by rw [HN.out]; exact hlt))] = (ls.take (k + 1)).map plN := by
        rw [List.take_succ_eq_append_getElem (by rw [HN.out]; exact hlt), List.map_append]
        rfl
      rw [hst] at hown'
      obtain ⟨s, hs⟩ : ∃ s, ls[k]'(by rw [HN.out]; exact hlt) = s := ⟨_, rfl⟩
      rw [hs] at hc1 hrun
      have HR := Lib.hid hrun
      clear hs hst hrun hc hown hlk
      unfold plN at HR
      go_wp2_with (at_builtin; refine wpList_append_run rfl _ _ _ _ rfl _ _ rfl rfl _ _ HR.out ?_)
      go_roundw
      case rel => exact ⟨k + 1, b', c', by go_num, rfl, by omega, hown', hbl.trans hb'⟩
      case measure => simp [intOf]; omega
    · have d0 := decide_eq_false (show ¬ (k : Int) < (n : Int) by omega)
      obtain rfl : k = n := by omega
      rw [List.take_of_length_le (by rw [HN.out]; omega)] at hown
      go_wp2
      go_ret
      exact ⟨b, c, rfl, hown, hbl⟩
end Go.Proofs.Yteefopeclfojiaa
/- 
  A row of names as an argument is known to be.
 -/
namespace Go.Proofs.Yteefopeclfojiaa
open Go.RowKit Go.ChangeShapes Go.WideShapes Go.Deep
theorem rows_names : ∀ rows : List (List Value), (∀ r ∈ rows, ∃ a : NmT, r = [.string a.1, .string a.2]) → ∃ q : List NmT, q.length = rows.length ∧ rows.flatten = nmC q
  | [], _ => ⟨[], rfl, rfl⟩
  | r :: rs, h => by
    obtain ⟨a, rfl⟩ := h r (List.mem_cons_self ..)
    obtain ⟨q, hl, hf⟩ := rows_names rs fun x hx => h x (List.mem_cons_of_mem _ hx)
    exact ⟨a :: q, by simp [hl], by rw [List.flatten_cons, hf]; rfl⟩
section
variable {H : Type} {enc : TypeId × Value → H} {W : World} {b0 base : Nat} {held : Bool}
set_option maxRecDepth 100000 in
theorem open_nms {r : Reach} {v : Value} {d : DataW H} {p : List MemPlace} (hv : Value.okWide Try.prog W r b0 38 v) (h : DataW.Trod enc Try.prog W base (fun _ => true) held 38 v d p) (hw : Wt Try.prog 38 d) :
    ∃ ns : List NmT, NsR W v ns := by
  obtain ⟨a, len, cap, rfl⟩ := okWide_slice Try.underlying38 hv
  obtain ⟨fuel, hf⟩ := h
  obtain ⟨y, rows, hy, hr, hb, hm, hrs⟩ := rows_of Try.underlying38 2 (by kernel_rfl) (by decide) hf hw
  have e1 : Value.slice a len cap = y := by simpa [Value.cells] using hy
  subst e1
  obtain ⟨ns, hl, hfl⟩ := rows_names rows fun r hr => by
    obtain ⟨hl2, n, z, tr, wr⟩ := hrs r hr
    match r, hl2, tr with
    | [x0, x1], _, tr =>
      obtain ⟨a, b, rfl, rfl, -, -⟩ := open_name tr wr
      exact ⟨(a, b), rfl⟩
  exact ⟨ns, by unfold NsR; rw [hl, ← hfl]; exact hr⟩
end
end Go.Proofs.Yteefopeclfojiaa
/- 
  Layer 23: the walk of rss.Field.
 -/
namespace Go.Proofs.Yteefopeclfojiaa
open Go.RowKit
attribute [local go_sem] Oper.semAt_some
/-- what a walk of layer 23 is told of its events. -/
structure REv (B : Nat) (es : List Evt) (v : Value) (w : World) : Prop where
  f : FEv B es v w
  t : (txsL es).length ≤ 137438953472
  a : ∀ e ∈ es, ∀ x ∈ e.at_, x.2.size ≤ 137438953472
theorem REv.below {B : Nat} {es : List Evt} {v : Value} {w w' : World} (h : REv B es v w) (hb : Below w.heap.size w w') : REv B es v w' := ⟨h.f.below hb, h.t, h.a⟩
theorem text_size (es : List Evt) (i : Int) (h : (txsL es).length ≤ 137438953472) : (strOfNums (textP es i)).size ≤ 137438953472 := by
  rw [strOfNums_size]
  exact Nat.le_trans (textP_len es i) h
/-- what lasts within Field. -/
structure FdJ (v : Value) (w : World) (s : ByteArray) (k : Int) (W : World) : Prop where
  bl : Boxed W w.heap.size 22 v
  rs : Boxed W (w.heap.size + 1) 9 (.string s)
  rk : Boxed W (w.heap.size + 1 + 1) 3 (.int .i64 k)
  be : Below w.heap.size w W
  sz : w.heap.size + 3 ≤ W.heap.size
theorem FdJ.turn {v : Value} {w : World} {s : ByteArray} {k : Int} {W W' : World} (h : FdJ v w s k W) (hk : KeepsB [w.heap.size, w.heap.size + 1, w.heap.size + 1 + 1] W W') (hb : Below w.heap.size W W') : FdJ v w s k W' :=
  ⟨((hk _ (by simp) h.bl.lt).1).trans h.bl, ((hk _ (by simp) h.rs.lt).1).trans h.rs, ((hk _ (by simp) h.rk.lt).1).trans h.rk, h.be.trans hb, Nat.le_trans h.sz hb.size⟩
theorem FdJ.up {v : Value} {w : World} {s : ByteArray} {k : Int} {W W' : World} (h : FdJ v w s k W) (hb : Below W.heap.size W W') : FdJ v w s k W' := h.turn (KeepsB.below hb) (hb.mono h.be.size)
theorem FdJ.sets {v : Value} {w : World} {s : ByteArray} {k : Int} {W : World} (h : FdJ v w s k W) (s' : ByteArray) (k' : Int) : FdJ v w s' k' ((W.setCell ⟨w.heap.size + 1, 0, none⟩ (.string s')).setCell ⟨w.heap.size + 1 + 1, 0, none⟩ (.int .i64 k')) :=
  ⟨(h.bl.other (by omega) _).other (by omega) _, (h.rs.set _).other (by omega) _, (h.rk.other (by omega) _).set _, (h.be.setCell (p := ⟨w.heap.size + 1, 0, none⟩) (by show _ ≤ w.heap.size + 1; omega) _).setCell (p := ⟨w.heap.size + 1 + 1, 0, none⟩) (by show _ ≤ w.heap.size + 1 + 1; omega) _, by simp; exact h.sz⟩
/-- .. and within a round's range. -/
structure FdK (v : Value) (w : World) (q j : Nat) (Ds : List Nat) (W : World) : Prop where
  J : FdJ v w ⟨#[]⟩ 0 W
  bk : Boxed W q 3 (.int .i64 (j : Int))
  ms : MarksAt (w.heap.size + 3) Ds W
theorem turns_at {B : Nat} {X Y : World} (ht : Turns NoMu B X Y) {k : Nat} (hk : k < B) (hl : k < X.heap.size) : Y.heap[k]? = X.heap[k]? := by
  obtain ⟨row, hg, hrow⟩ := ht
  refine hg.block k hl fun e => ?_
  have := (hrow k e.symm).1
  omega
theorem fdJ_turns {v : Value} {w : World} {s : ByteArray} {k : Int} {B : Nat} (hB : w.heap.size + 3 ≤ B) {X Y : World} (h : FdJ v w s k X) (ht : Turns NoMu B X Y) : FdJ v w s k Y :=
  h.turn (fun b hb hl => ⟨turns_at ht (by simp at hb; omega) hl, (ht.below (C := w.heap.size) (by omega) h.be.size).size⟩) (ht.below (C := w.heap.size) (by omega) h.be.size)
theorem marks_turns {lo B : Nat} {Ds : List Nat} (hB : ∀ D ∈ Ds, D < B) {X Y : World} (h : MarksAt lo Ds X) (ht : Turns NoMu B X Y) : MarksAt lo Ds Y := h.kept fun D hD => turns_at ht (hB D hD) (h.lt D hD)
theorem fdK_turns {v : Value} {w : World} {q j B : Nat} {Ds : List Nat} (hB : w.heap.size + 3 ≤ B) (hq : q < B) (hD : ∀ D ∈ Ds, D < B) {X Y : World} (h : FdK v w q j Ds X) (ht : Turns NoMu B X Y) : FdK v w q j Ds Y :=
  ⟨fdJ_turns hB h.J ht, (turns_at ht hq h.bk.lt).trans h.bk, marks_turns hD h.ms ht⟩
theorem FdK.up {v : Value} {w : World} {q j : Nat} {Ds : List Nat} {W W' : World} (h : FdK v w q j Ds W) (hb : Below W.heap.size W W') : FdK v w q j Ds W' := ⟨h.J.up hb, (hb.block q h.bk.lt).trans h.bk, h.ms.up hb⟩
/-- the text of a child, if it is not blank. -/
def gdK (es : List Evt) (k : Nat) : Option ByteArray := gdB (strOfNums (textP es (k : Int)))
def FlI (es : List Evt) (v : Value) (w : World) (q j : Nat) (Ds : List Nat) (pre : List Nat) (W : World) : Prop := FdK v w q j Ds W ∧ ∀ k ∈ pre, gdK es k = none
def FlX (es : List Evt) (v : Value) (w : World) (j : Nat) (Ds : List Nat) (c : Code) (pre : List Nat) (W : World) : Prop :=
  c = .ret ∧ ∃ (ini : List Nat) (x : Nat) (s : ByteArray), pre = ini ++ [x] ∧ (∀ k ∈ ini, gdK es k = none) ∧ gdK es x = some s ∧ FdJ v w s (j : Int) W ∧ MarksAt (w.heap.size + 3) Ds W
/-- what holds at the head of Field's loop. -/
def FlL (es : List Evt) (ns : List NmT) (v nv : Value) (w : World) (n : Nat) (R : ByteArray × Int) (a' : Act) (wr : World) : Prop :=
  ∃ (u6 u7 u8 u9 u13 u14 u15 u16 u17 u18 u19 u20 u21 u22 u23 u24 u25 u26 u27 u28 u29 : Value) (j : Nat) (jv : Int) (Ds : List Nat), a' = { tmps := #[v, nv, .pointer (some ⟨w.heap.size, 0, none⟩), undef, .pointer (some ⟨w.heap.size + 1, 0, none⟩), .pointer (some ⟨w.heap.size + 1 + 1, 0, none⟩), u6, u7, u8, u9, nv, .int .i64 n, .int .i64 jv, u13, u14, u15, u16, u17, u18, u19, u20, u21, u22, u23, u24, u25, u26, u27, u28, u29], defers := marks Ds } ∧
    jv = (j : Int) ∧ j ≤ n ∧ fieldF (fldK es) (ns.drop j) j = R ∧ FdJ v w ⟨#[]⟩ 0 wr ∧ MarksAt (w.heap.size + 3) Ds wr
set_option maxRecDepth 100000 in
set_option maxHeartbeats 8000000 in
theorem rss_Field (B : Nat) (es : List Evt) (v : Value) (ns : List NmT) (nv : Value) (w : World) (hE : REv B es v w) (hN : NsR w nv ns) (hns : ns.length ≤ 1000000) :
    Calls Try.prog 50 #[v, nv] w fun r w' => r = .returned (.tuple #[.string (fieldP es ns).1, .int .i64 (fieldP es ns).2]) ∧ Below w.heap.size w w' := by
  refine (callsIn_wide (n := 6)).1 ?_
  refine callsIn_of_wp_marks Try.func50 rfl trivial ?_ rfl
  simp only [Try.ntmps50, List.size_toArray, List.length_cons, List.length_nil, Nat.reduceAdd, Nat.reduceSub, Array.replicate_succ, Array.replicate_zero, List.push_toArray, List.append_toArray, List.nil_append, List.cons_append]
  obtain ⟨avs, ⟨a, cap, rfl, -⟩, -⟩ := id hE.f.r
  obtain ⟨na, nc, rfl⟩ := hN.form
  obtain ⟨R, hR⟩ : ∃ R, fieldP es ns = R := ⟨_, rfl⟩
  rw [hR]
  have hst : fieldF (fldK es) (ns.drop 0) 0 = R := hR
  obtain ⟨n, hn⟩ : ∃ n, ns.length = n := ⟨_, rfl⟩
  have HNL := Lib.hid hn
  have HN := Lib.hid hN
  rw [hn] at hns HN ⊢
  have FE := Lib.hid (fun (u : World) (hu : Below w.heap.size w u) => hE.below hu)
  have J0 : FdJ (.slice a es.length cap) w ⟨#[]⟩ 0 (((w.alloc (.cells #[.slice a es.length cap] 22)).alloc (.cells #[.string ⟨#[]⟩] 9)).alloc (.cells #[.int .i64 0] 3)) := by
    have h1 := Boxed.new (w.alloc (.cells #[.slice a es.length cap] 22)) 9 (.string ⟨#[]⟩)
    have h2 := Boxed.new ((w.alloc (.cells #[.slice a es.length cap] 22)).alloc (.cells #[.string ⟨#[]⟩] 9)) 3 (.int .i64 0)
    simp only [World.size_alloc] at h1 h2
    exact ⟨((Boxed.new w _ _).alloc _).alloc _, h1.alloc _, h2, (((Below.refl w.heap.size w).alloc (Nat.le_refl _) _).alloc (by simp) _).alloc (by simp; omega) _, by simp⟩
  clear hE hN hR hn
  gi_wp2_with fail
  generalize ((w.alloc (.cells #[.slice a es.length cap] 22)).alloc (.cells #[.string ⟨#[]⟩] 9)).alloc (.cells #[.int .i64 0] 3) = w1 at J0 ⊢
  refine wpIn_loop (FlL es ns (.slice a es.length cap) (.slice na n nc) w n R) (fun a' _ => n - (intOf (a'.tmps.getD 12 undef)).toNat) ⟨_, _, _, _, _, _, _, _, _, _, _, _, _, _, _, _, _, _, _, _, _, 0, 0, [], rfl, rfl, Nat.zero_le _, hst, J0, MarksAt.nil _ _⟩ ?_
  clear J0 hst w1
  rintro _ wr ⟨u6, u7, u8, u9, u13, u14, u15, u16, u17, u18, u19, u20, u21, u22, u23, u24, u25, u26, u27, u28, u29, j, jv, Ds, rfl, rfl, hj, hst, J, M⟩
  by_cases hlt : j < n
  · have hd := decide_eq_true (show (j : Int) < (n : Int) by omega)
    obtain ⟨m, hm⟩ : ∃ m, ns[j]? = some m := ⟨_, List.getElem?_eq_getElem (by rw [HNL.out]; exact hlt)⟩
    obtain ⟨q, o, rfl, hq, c1, c2⟩ := HN.out.at_ hm J.be (Nat.le_refl _)
    have hst2 := fieldP_at (es := es) (ns := ns) (k := j) (by rw [HNL.out]; exact hlt)
    rw [hst, (List.getElem?_eq_some_iff.1 hm).2] at hst2
    have HS := Lib.hid hst2
    have hw1 : FdJ (.slice a es.length cap) w ⟨#[]⟩ 0 ((wr.alloc (.cells #[.int .i64 j] 3)).alloc (.cells #[.string m.1, .string m.2] 24)) := J.up (((Below.refl _ wr).alloc (Nat.le_refl _) _).alloc (by simp) _)
    have HM := Lib.hid (M.up (((Below.refl _ wr).alloc (Nat.le_refl _) (.cells #[.int .i64 j] 3)).alloc (by simp) (.cells #[.string m.1, .string m.2] 24)))
    have hML := Lib.hid M.lt
    have d0 := hw1.bl.cell
    clear hst hst2 hm M
    gi_wp2_with fail
    refine ⟨trivial, ?_⟩
    have bk : Boxed ((wr.alloc (.cells #[.int .i64 j] 3)).alloc (.cells #[.string m.1, .string m.2] 24)) wr.heap.size 3 (.int .i64 (j : Int)) := (Boxed.new wr _ _).alloc _
    have hs1 : ((wr.alloc (.cells #[.int .i64 j] 3)).alloc (.cells #[.string m.1, .string m.2] 24)).heap.size = wr.heap.size + 2 := by simp
    obtain ⟨wA, hwA⟩ : ∃ x, ((wr.alloc (.cells #[.int .i64 j] 3)).alloc (.cells #[.string m.1, .string m.2] 24)) = x := ⟨_, rfl⟩
    rw [hwA] at hw1 HM bk hs1 ⊢
    have hsw := J.sz
    clear hwA d0 c1 c2 J
    refine (rss_kids_in Fence.wide _ trivial rfl _ _ _ _ m _).mono ?_
    rintro e w2 ⟨rfl, rfl⟩
    have hT : RkAt wA.heap.size (wA.heap.size + 1) (wA.heap.size + 2) (.slice a es.length cap) 0 m (((wA.alloc (.cells #[.slice a es.length cap] 22)).alloc (.cells #[.int .i64 0] 3)).alloc (.cells #[.string m.1, .string m.2] 24)) := by
      have h2 := Boxed.new (wA.alloc (.cells #[.slice a es.length cap] 22)) 3 (.int .i64 0)
      have h3 := RowAt.new ((wA.alloc (.cells #[.slice a es.length cap] 22)).alloc (.cells #[.int .i64 0] 3)) #[.string m.1, .string m.2] 24
      simp only [World.size_alloc] at h2 h3
      exact ⟨((Boxed.new wA _ _).alloc _).alloc _, h2.alloc _, h3⟩
    have hb2 : Below wA.heap.size wA (((wA.alloc (.cells #[.slice a es.length cap] 22)).alloc (.cells #[.int .i64 0] 3)).alloc (.cells #[.string m.1, .string m.2] 24)) := (((Below.refl wA.heap.size wA).alloc (Nat.le_refl _) _).alloc (by simp) _).alloc (by simp; omega) _
    have K2 : FdK (.slice a es.length cap) w wr.heap.size j Ds (((wA.alloc (.cells #[.slice a es.length cap] 22)).alloc (.cells #[.int .i64 0] 3)).alloc (.cells #[.string m.1, .string m.2] 24)) := (FdK.mk hw1 bk HM.out).up hb2
    have hs3 : (((wA.alloc (.cells #[.slice a es.length cap] 22)).alloc (.cells #[.int .i64 0] 3)).alloc (.cells #[.string m.1, .string m.2] 24)).heap.size = wA.heap.size + 3 := by simp
    obtain ⟨w3, hw3⟩ : ∃ x, (((wA.alloc (.cells #[.slice a es.length cap] 22)).alloc (.cells #[.int .i64 0] 3)).alloc (.cells #[.string m.1, .string m.2] 24)) = x := ⟨_, rfl⟩
    rw [hw3] at hT K2 hs3 ⊢
    have hE2 := FE.out _ K2.J.be
    clear hw3 hb2 hw1 bk HM
    obtain ⟨q3, hq3⟩ : ∃ q, wA.heap.size = q := ⟨_, rfl⟩
    rw [hq3] at hT hs3 hs1 ⊢
    obtain ⟨qk, hqk⟩ : ∃ q, wr.heap.size = q := ⟨_, rfl⟩
    rw [hqk] at K2 hs1 hsw hML ⊢
    have hs1' : qk + 2 ≤ q3 := by omega
    have hs3' : q3 + 3 ≤ w3.heap.size := by omega
    clear hq3 hqk hs1 hs3
    gi_wp2_with fail
    refine wpIn_rangeFunc_ownP NoMu rfl (by omega) (gf := 114) (lb := #[.pointer (some ⟨q3, 0, none⟩), .pointer (some ⟨q3 + 1, 0, none⟩), .pointer (some ⟨q3 + 2, 0, none⟩)]) rfl trivial (enters_of Try.func114 (by kernel_rfl) rfl)
      (rkids_stops B es _ (by omega) q3 (q3 + 1) (q3 + 2) _ 0 m (by have := hE2.f.n; omega) hE2.f.z2 w3 hE2.f.r hE2.f.hB hT) (fun h k => ⟨h.1.trans k.1, h.2.trans k.2⟩) (fun W l o o' h1 h2 h3 _ => ⟨KeepsT.putObj h2 h3, below_putObj (Nat.le_trans hE2.f.hB h1) h2 h3⟩) (Below.refl _ _) (fun _ => rfl)
      (FlI es (.slice a es.length cap) w qk j Ds) (FlX es (.slice a es.length cap) w j Ds) (fun _ _ _ h ht => ⟨fdK_turns (by omega) (by omega) (fun D hD => by have := hML.out D hD; omega) h.1 ht, h.2⟩)
      (fun c pre X Y h ht => by obtain ⟨hc, ini, x, s, h1, h2, h3, hj, hm⟩ := h; exact ⟨hc, ini, x, s, h1, h2, h3, fdJ_turns (by omega) hj ht, marks_turns (fun D hD => by have := hML.out D hD; omega) hm ht⟩)
      ⟨K2, fun k hk => by cases hk⟩
      (fun x a' W => a' = { tmps := #[.slice a es.length cap, .slice (some ⟨q, o, none⟩) n nc, .pointer (some ⟨w.heap.size, 0, none⟩), undef, .pointer (some ⟨w.heap.size + 1, 0, none⟩), .pointer (some ⟨w.heap.size + 1 + 1, 0, none⟩), .pointer (some ⟨qk, 0, none⟩), .pointer (some ⟨qk + 1, 0, none⟩), .int .i64 (x : Nat), u9, .slice (some ⟨q, o, none⟩) n nc, .int .i64 n, .int .i64 j, .bool true, .int .i64 j, .pointer (some ⟨q, o + j * 2, none⟩), .agg #[.string m.1, .string m.2], .slice a es.length cap, .agg #[.string m.1, .string m.2], .func (.func 114) #[] #[.pointer (some ⟨q3, 0, none⟩), .pointer (some ⟨q3 + 1, 0, none⟩), .pointer (some ⟨q3 + 2, 0, none⟩)], .int .i64 (x : Nat), u21, u22, u23, u24, u25, u26, u27, u28, u29], defers := [] })
      (fun x a' _ _ _ _ h _ _ => h) ?assign ?body ?done ?stop
    case assign =>
      rintro l pre x W K hI hK
      gi_wp2
      exact hK _ _ (KeepsFrom.refl _ _) ⟨⟨Nat.le_refl _, fun k c T fz _ _ => rfl⟩, Below.refl _ _⟩ hI rfl
    case body =>
      rintro l pre x a' W hl ⟨K1, hpre⟩ rfl hsp hlen
      have d0 := K1.J.bl.cell
      have hEW := FE.out W K1.J.be
      have HT := Lib.hid (events_Text B es (.slice a es.length cap) x W hEW.f.r hEW.f.hB (by have := hEW.f.n; omega) hEW.f.z2 hEW.f.t hEW.f.c)
      have hsz := text_size es x hEW.t
      have HG := Lib.hid (show gdK es x = gdB (strOfNums (textP es x)) from rfl)
      obtain ⟨s, hs⟩ : ∃ s, strOfNums (textP es (x : Nat)) = s := ⟨_, rfl⟩
      rw [hs] at HT hsz HG
      have HK := Lib.hid K1
      have HPRE := Lib.hid hpre
      clear hs hEW K1 hpre
      cases hbl : blankN (nums s) with
      | true =>
        have HL := Lib.hid (show gdK es x = none by rw [HG.out]; unfold gdB; rw [if_pos hbl])
        gi_wp2_with (first
          | (refine ⟨trivial, ?_⟩; gi_at_call 21; refine (CallsIn.inRound l (callsIn_wide.2 HT.out)).mono ?_; rintro e w4 ⟨rfl, hb4⟩; have K4 := HK.out.up hb4; clear HT)
          | (refine ⟨trivial, ?_⟩; gi_at_call 92; refine (CallsIn.inRound l (callsIn_wide.2 (chars_Blank s w4 hsz))).mono ?_; rintro e w5 ⟨rfl, hb5⟩; have K5 := K4.up hb5; rw [hbl]))
        refine ⟨((keepsOthers_belowQ hb4).trans (keepsOthers_belowQ hb5)).from _, ⟨(KeepsT.below hb4).trans (KeepsT.below hb5), (hb4.mono (FE.out W HK.out.J.be).f.hB).trans (hb5.mono (FE.out w4 K4.J.be).f.hB)⟩, K5, fun k hk => ?_⟩
        rcases List.mem_append.1 hk with hk | hk
        · exact HPRE.out k hk
        · rw [List.mem_singleton.1 hk, HL.out]
      | false =>
        have HL := Lib.hid (show gdK es x = some s by rw [HG.out]; unfold gdB; rw [hbl, if_neg Bool.false_ne_true])
        gi_wp2_with (first
          | (refine ⟨trivial, ?_⟩; gi_at_call 21; refine (CallsIn.inRound l (callsIn_wide.2 HT.out)).mono ?_; rintro e w4 ⟨rfl, hb4⟩; have K4 := HK.out.up hb4; clear HT)
          | (refine ⟨trivial, ?_⟩; gi_at_call 92; refine (CallsIn.inRound l (callsIn_wide.2 (chars_Blank s w4 hsz))).mono ?_; rintro e w5 ⟨rfl, hb5⟩; have K5 := K4.up hb5; rw [hbl]))
        have y0 := K5.bk.cell
        have x1 := K5.J.rs.cell
        have x2 := K5.J.rk.cell
        have x3 := K5.J.rs.frozen
        have x4 := K5.J.rk.frozen
        have FIN := Lib.hid (show KeepsFrom w3.heap.size W ((w5.setCell ⟨w.heap.size + 1, 0, none⟩ (.string s)).setCell ⟨w.heap.size + 1 + 1, 0, none⟩ (.int .i64 (j : Int))).drew ∧ FlX es (.slice a es.length cap) w j Ds .ret (pre ++ [x]) ((w5.setCell ⟨w.heap.size + 1, 0, none⟩ (.string s)).setCell ⟨w.heap.size + 1 + 1, 0, none⟩ (.int .i64 (j : Int))).drew from by
          have K6 := K5.J.sets s (j : Int)
          have M6 := K5.ms.keepO ((KeepsOthers.setCell w5 ⟨w.heap.size + 1, 0, none⟩ (.string s)).trans (KeepsOthers.setCell _ ⟨w.heap.size + 1 + 1, 0, none⟩ (.int .i64 (j : Int))))
          have O6 := ((keepsOthers_belowQ hb4).trans (keepsOthers_belowQ hb5)).trans ((KeepsOthers.setCell w5 ⟨w.heap.size + 1, 0, none⟩ (.string s)).trans (KeepsOthers.setCell _ ⟨w.heap.size + 1 + 1, 0, none⟩ (.int .i64 (j : Int))))
          generalize (w5.setCell ⟨w.heap.size + 1, 0, none⟩ (.string s)).setCell ⟨w.heap.size + 1 + 1, 0, none⟩ (.int .i64 (j : Int)) = w6 at K6 M6 O6
          have hb6 : Below w6.heap.size w6 w6.drew := (Below.refl _ _).drew
          exact ⟨(O6.trans (keepsOthers_belowQ hb6)).from _, rfl, pre, x, s, rfl, HPRE.out, HL.out, K6.up hb6, M6.up hb6⟩)
        gi_region
        all_goals
          gi_wp2_with fail
          exact FIN.out
    case done =>
      rintro D ys W hD hys ⟨K1, hpre⟩ hK
      have HP := Lib.hid (show fldK es m = none by unfold fldK; exact List.findSome?_eq_none_iff.2 (by rw [← hys]; exact hpre))
      have hst := HS.out
      rw [HP.out] at hst
      have HS2 := Lib.hid hst
      clear hst
      gi_wp2_with fail
      refine ⟨⟨_, _, _, _, _, _, _, _, _, _, _, _, _, _, _, _, _, _, _, _, _, j + 1, _, D :: Ds, rfl, by omega, by omega, HS2.out.symm, K1.J, K1.ms.cons (fun h => by have := hML.out D h; omega) (by omega) hK⟩, ?_⟩
      simp [intOf]
      omega
    case stop =>
      rintro D c pre W hD ht ⟨rfl, ini, x, s, rfl, h1, h2, J, M⟩ hK
      have HP := Lib.hid (show R = (s, (j : Int)) by rw [HS.out, show fldK es m = some s from some_pre ht h1 h2])
      gi_wp2_with fail
      refine leaves_marks (lo := w.heap.size + 3) (D :: Ds) W (M.cons (fun h => by have := hML.out D h; omega) (by omega) hK) fun W' hb hk => ?_
      have hc5 := hk _ _ J.rs.cell
      have hc6 := hk _ _ J.rk.cell
      refine ⟨.tuple #[.string s, .int .i64 j], ?_, by rw [HP.out], J.be.trans (hb.mono (by omega))⟩
      simp [results, Try.f50, go_sem, hc5, hc6]
  · have hd := decide_eq_false (show ¬ (j : Int) < (n : Int) by omega)
    have x1 := J.rs.cell
    have x2 := J.rk.cell
    have x3 := J.rs.frozen
    have x4 := J.rk.frozen
    have HO := Lib.hid (J.sets ⟨#[]⟩ (-1))
    have HMs := Lib.hid (M.keepO ((KeepsOthers.setCell wr ⟨w.heap.size + 1, 0, none⟩ (.string ⟨#[]⟩)).trans (KeepsOthers.setCell _ ⟨w.heap.size + 1 + 1, 0, none⟩ (.int .i64 (-1)))))
    have HP := Lib.hid (show R = (⟨#[]⟩, -1) by rw [← hst, List.drop_eq_nil_of_le (by rw [HNL.out]; omega)]; rfl)
    clear M hst J
    gi_wp2_with fail
    refine leaves_marks (lo := w.heap.size + 3) Ds _ HMs.out fun W' hb hk => ?_
    have hc5 := hk _ _ HO.out.rs.cell
    have hc6 := hk _ _ HO.out.rk.cell
    refine ⟨.tuple #[.string ⟨#[]⟩, .int .i64 (-1)], ?_, by rw [HP.out], HO.out.be.trans (hb.mono (by omega))⟩
    simp [results, Try.f50, go_sem, hc5, hc6]
end Go.Proofs.Yteefopeclfojiaa
/- 
  Layer 23: the walks of slices.Grow and slices.Concat at rows of names.
 -/
namespace Go.Proofs.Yteefopeclfojiaa
open Go.RowKit
theorem OwnN.mono {base base' : Nat} {w : World} {v : Value} {ns : List NmT} (h : OwnN base' w v ns) (hb : base ≤ base') : OwnN base w v ns := by
  obtain ⟨h1, h2⟩ := h
  refine ⟨h1, ?_⟩
  rcases h2 with h2 | ⟨g, cap, cur, rfl, h3, h4⟩
  · exact .inl h2
  · exact .inr ⟨g, cap, cur, rfl, by omega, h4⟩
set_option maxRecDepth 100000 in
set_option maxHeartbeats 4000000 in
theorem grow_names (n : Nat) (w : World) (h0 : 0 < n) (hn : n ≤ 1000) :
    Calls Try.prog 128 #[.slice none 0 0, .int .i64 n] w fun r w' => ∃ a c, r = .returned (.slice a 0 c) ∧ OwnN w.heap.size w' (.slice a 0 c) [] ∧ Below w.heap.size w w' := by
  obtain ⟨i0, hi, hz0, hz1, hz2⟩ := info_parts infoNm
  have hrun := fun ty => Lib.run_append_nil_zeros (P := Try.prog) w 38 3 ty 24 i0 (.agg #[.string ⟨#[]⟩, .string ⟨#[]⟩]) .i64 .i64 Try.underlying38 Try.underlying3 hi hz0 n h0 (by omega) (by omega) (by rw [hz2]; omega)
  have hG := grownCap_ge w n 0 24
  have hG2 := grownCap_le_maxLen w n 0 24 (by unfold maxLen; omega)
  obtain ⟨G, hGe⟩ : ∃ G, grownCap w n 0 24 = G := ⟨_, rfl⟩
  rw [hGe] at hrun hG hG2
  clear hGe
  have hown : OwnN w.heap.size (w.drew.alloc (.cells (Builtin.zeroCells (Value.agg #[.string ⟨#[]⟩, .string ⟨#[]⟩]).cells n ++ Builtin.zeroCells (Value.agg #[.string ⟨#[]⟩, .string ⟨#[]⟩]).cells (G - n)) 24)) (.slice (some ⟨w.heap.size, 0, none⟩) 0 G) [] := by
    refine ⟨rfl, .inr ⟨w.heap.size, G, _, rfl, Nat.le_refl _, heap_alloc_new w.drew _, Nat.zero_le _, hG2, ?_, rfl⟩⟩
    simp only [Array.size_append, size_zeroCells, Value.cells]
    show n * 2 + (G - n) * 2 = G * 2
    omega
  have hbl : Below w.heap.size w (w.drew.alloc (.cells (Builtin.zeroCells (Value.agg #[.string ⟨#[]⟩, .string ⟨#[]⟩]).cells n ++ Builtin.zeroCells (Value.agg #[.string ⟨#[]⟩, .string ⟨#[]⟩]).cells (G - n)) 24)) := ((Below.refl _ w).drew).alloc (Nat.le_refl _) _
  generalize w.drew.alloc (.cells (Builtin.zeroCells (Value.agg #[.string ⟨#[]⟩, .string ⟨#[]⟩]).cells n ++ Builtin.zeroCells (Value.agg #[.string ⟨#[]⟩, .string ⟨#[]⟩]).cells (G - n)) 24) = w1 at hrun hown hbl
  have HR := Lib.hid hrun
  clear hrun
  unfold maxLen at hG2
  have h1 : decide ((n : Int) < 0) = false := decide_eq_false (by omega)
  have h4 : decide ((n : Int) > 0) = true := decide_eq_true (by omega)
  go_enter Try.func128, Try.ntmps128
  go_wp2_with (at_builtin; refine Lib.wpList_append_run _ rfl _ _ _ _ rfl _ _ rfl rfl _ _ (HR.out _) ?_)
  go_ret
  exact ⟨_, _, rfl, hown, hbl⟩
/-- rows of names behind a row of slices. -/
def RowsAt (w : World) (sv : Value) (L : List (Value × List NmT)) : Prop := ∃ a cap, sv = .slice a L.length cap ∧ ∀ (k : Nat) (x : Value × List NmT), L[k]? = some x → NsR w x.1 x.2 ∧ ∃ q o, a = some ⟨q, o, none⟩ ∧ q < w.heap.size ∧ w.cell? ⟨q, o + k, none⟩ = some x.1
def sumL (L : List (Value × List NmT)) : Nat := (L.map fun x => x.2.length).sum
theorem sumL_snoc {L : List (Value × List NmT)} {k : Nat} {x : Value × List NmT} (h : L[k]? = some x) : sumL (L.take (k + 1)) = sumL (L.take k) + x.2.length := by
  unfold sumL
  rw [List.take_add_one, h, List.map_append, List.sum_append]
  simp
theorem flat_snoc {L : List (Value × List NmT)} {k : Nat} {x : Value × List NmT} (h : L[k]? = some x) : (L.take (k + 1)).flatMap Prod.snd = (L.take k).flatMap Prod.snd ++ x.2 := by
  rw [List.take_add_one, h, List.flatMap_append]
  simp
theorem sumL_flat (L : List (Value × List NmT)) : (L.flatMap Prod.snd).length = sumL L := by
  unfold sumL
  rw [List.length_flatMap]
theorem sumL_take (L : List (Value × List NmT)) : ∀ k, sumL (L.take k) ≤ sumL L := fun k => by
  have h : L.take k ++ L.drop k = L := List.take_append_drop k L
  have h2 : sumL (L.take k ++ L.drop k) = sumL (L.take k) + sumL (L.drop k) := by unfold sumL; rw [List.map_append, List.sum_append]
  rw [h] at h2
  omega
set_option maxRecDepth 100000 in
set_option maxHeartbeats 4000000 in
theorem concat_names (L : List (Value × List NmT)) (sv : Value) (w : World) (hS : RowsAt w sv L) (hl : L.length ≤ 1000) (h0 : 0 < sumL L) (hn : sumL L ≤ 1000) :
    Calls Try.prog 119 #[sv] w fun r w' => ∃ a c, r = .returned (.slice a (sumL L) c) ∧ OwnN w.heap.size w' (.slice a (sumL L) c) (L.flatMap Prod.snd) ∧ Below w.heap.size w w' := by
  obtain ⟨a, cap, rfl, hq⟩ := hS
  have HQ := Lib.hid hq
  obtain ⟨n, hnn⟩ : ∃ n, L.length = n := ⟨_, rfl⟩
  have HN := Lib.hid hnn
  rw [hnn] at hl ⊢
  obtain ⟨S, hS⟩ : ∃ S, sumL L = S := ⟨_, rfl⟩
  have HS := Lib.hid hS
  rw [hS] at h0 hn ⊢
  clear hq hnn hS
  go_enter Try.func119, Try.ntmps119
  go_wp2_with fail
  go_loop [3, 11] (fun s i => ∃ k : Nat, i = .int .i64 k ∧ s = .int .i64 (sumL (L.take k) : Nat) ∧ k ≤ n) (fun _ i => n - (intOf i).toNat)
  case atStart => exact ⟨0, rfl, rfl, Nat.zero_le _⟩
  case round =>
    obtain ⟨k, rfl, rfl, hk⟩ := hrel
    by_cases hlt : k < n
    · have d0 := decide_eq_true (show (k : Int) < (n : Int) by omega)
      obtain ⟨x, hx⟩ : ∃ x, L[k]? = some x := ⟨_, List.getElem?_eq_getElem (by rw [HN.out]; exact hlt)⟩
      obtain ⟨hns, q, o, rfl, hq, hc⟩ := HQ.out k x hx
      obtain ⟨v, ms⟩ := x
      obtain ⟨va, vc, hv⟩ := hns.form
      simp only at hv
      subst hv
      have hs := sumL_snoc hx
      have ht := sumL_take L (k + 1)
      rw [HS.out, hs] at ht
      simp only at hs hc ht
      have d1 : decide ((sumL (L.take k) : Int) + (ms.length : Int) < 0) = false := decide_eq_false (by omega)
      have HX := Lib.hid hs
      obtain ⟨s, hss⟩ : ∃ s, sumL (L.take k) = s := ⟨_, rfl⟩
      rw [hss] at ht d1 HX ⊢
      clear hx hns hs hss
      go_wp2_with fail
      go_round
      case rel => exact ⟨k + 1, by go_num, by rw [HX.out]; go_num, by omega⟩
      case measure => simp [intOf]; omega
    · have d0 := decide_eq_false (show ¬ (k : Int) < (n : Int) by omega)
      have hk' : sumL (L.take k) = S := by rw [List.take_of_length_le (by rw [HN.out]; omega), HS.out]
      rw [hk']
      clear hk'
      go_wp2_with fail
      refine (grow_names S _ h0 hn).mono ?_
      rintro r w1 ⟨b1, c1, rfl, hown, hb1⟩
      go_wp2_with fail
      go_loopw [6, 27] (fun v i wr => ∃ (k : Nat) (b : Option Addr) (c : Nat), i = .int .i64 k ∧ v = .slice b (sumL (L.take k)) c ∧ k ≤ n ∧ OwnN w.heap.size wr (.slice b (sumL (L.take k)) c) ((L.take k).flatMap Prod.snd) ∧ Below w.heap.size w wr) (fun _ i _ => n - (intOf i).toNat)
      case atStart => exact ⟨0, b1, c1, rfl, rfl, Nat.zero_le _, hown, hb1⟩
      case round =>
        clear hown hb1 hk hlt d0
        obtain ⟨k, b, c, rfl, rfl, hk, hown, hbl⟩ := hrel
        by_cases hlt : k < n
        · have d0 := decide_eq_true (show (k : Int) < (n : Int) by omega)
          obtain ⟨x, hx⟩ : ∃ x, L[k]? = some x := ⟨_, List.getElem?_eq_getElem (by rw [HN.out]; exact hlt)⟩
          obtain ⟨hns, q, o, rfl, hq, hc⟩ := HQ.out k x hx
          obtain ⟨v, ms⟩ := x
          have hs := sumL_snoc hx
          have ht := sumL_take L (k + 1)
          rw [HS.out, hs] at ht
          simp only at hs hc ht hns
          have hfl : ((L.take k).flatMap Prod.snd).length = sumL (L.take k) := sumL_flat _
          obtain ⟨b', c', w', hrun, hown', hb'⟩ := hown.app (hns.below hbl) hbl.size (by rw [hfl]; omega)
          have e1 : ((L.take k).flatMap Prod.snd ++ ms).length = sumL (L.take (k + 1)) := by rw [List.length_append, hfl, hs]
          rw [e1] at hrun hown'
          have e2 := flat_snoc hx
          simp only at e2
          rw [← e2] at hown'
          obtain ⟨va, vc, hv⟩ := hns.form
          subst hv
          have c0 : wr.cell? ⟨q, o + k, none⟩ = some (.slice va ms.length vc) := (hbl.cell hq).trans hc
          obtain ⟨s, hss⟩ : ∃ s, sumL (L.take k) = s := ⟨_, rfl⟩
          obtain ⟨s2, hss2⟩ : ∃ s, sumL (L.take (k + 1)) = s := ⟨_, rfl⟩
          have HS2 := Lib.hid hss2
          rw [hss2] at hrun hown'
          rw [hss] at hrun ⊢
          have HR := Lib.hid hrun
          clear hx hns hs hss hrun hown hfl e1 e2 hss2 hc
          go_wp2_with (at_builtin; refine wpList_append_run rfl _ _ _ _ rfl _ _ rfl rfl _ _ HR.out ?_)
          go_roundw
          case rel => exact ⟨k + 1, b', c', by go_num, by rw [HS2.out], by omega, by rw [HS2.out]; exact hown', hbl.trans hb'⟩
          case measure => simp [intOf]; omega
        · have d0 := decide_eq_false (show ¬ (k : Int) < (n : Int) by omega)
          have hk' : L.take k = L := List.take_of_length_le (by rw [HN.out]; omega)
          rw [hk', HS.out] at hown
          rw [hk', HS.out]
          go_wp2_with fail
          go_ret
          exact ⟨b, c, rfl, hown, hbl⟩
end Go.Proofs.Yteefopeclfojiaa
