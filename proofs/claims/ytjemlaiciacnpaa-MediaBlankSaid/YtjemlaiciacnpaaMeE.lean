/-
  A row of bytes that a conversion made, written on; the walks of Lower, in media and in the reference.
-/
import Derived.Test.YtjemlaiciacnpaaMeC
import Derived.Lib.ConvBytes
import Derived.Lib.BufferMore
namespace Go.Proofs.Ytjemlaiciacnpaa
open Go.RowKit
/-- the block p holds a row whose first bytes are xs, and none of the row is frozen. -/
def LowRow (w : World) (p : Nat) (xs : List Int) : Prop := ∃ (C : Array Value) (e : TypeId) (m : Nat), w.heap[p]? = some (.cells C e (C.size, m)) ∧ C.toList.take xs.length = xs.map (Value.int .u8)
theorem LowRow.cellAt {w : World} {p : Nat} {xs : List Int} (h : LowRow w p xs) (j : Nat) (hj : j < xs.length) : w.cell? ⟨p, j, none⟩ = some (.int .u8 xs[j]) := by
  obtain ⟨C, e, m, hb, hC⟩ := h
  have h1 : (C.toList.take xs.length)[j]? = some (.int .u8 xs[j]) := by
    rw [hC, List.getElem?_map, List.getElem?_eq_getElem hj]
    rfl
  rw [List.getElem?_take_of_lt hj] at h1
  simpa [World.cell?, hb] using h1
theorem LowRow.frozenAt {w : World} {p : Nat} {xs : List Int} (h : LowRow w p xs) (j : Nat) (hj : j < xs.length) : w.frozen? ⟨p, j, none⟩ = false := by
  obtain ⟨C, e, m, hb, hC⟩ := h
  have h1 : xs.length ≤ C.size := by
    have := congrArg List.length hC
    simp only [List.length_take, Array.length_toList, List.length_map] at this
    omega
  have h2 : ¬ C.size ≤ j := by omega
  simp [World.frozen?, hb, h2]
theorem LowRow.stored {w : World} {p : Nat} {xs : List Int} (h : LowRow w p xs) (j : Nat) (x : Int) : LowRow (w.setCell ⟨p, j, none⟩ (.int .u8 x)) p (xs.set j x) := by
  obtain ⟨C, e, m, hb, hC⟩ := h
  refine ⟨C.setIfInBounds j (.int .u8 x), e, m, ?_, ?_⟩
  · rw [Lib.heap_setCell_same hb, Array.size_setIfInBounds]
  · rw [Array.toList_setIfInBounds, List.length_set, List.map_set, ← hC, List.take_set]
theorem LowRow.drewN {w : World} {p : Nat} {xs : List Int} (h : LowRow w p xs) (n : Nat) : LowRow (w.drewN n) p xs := h
theorem LowRow.made (w : World) (e : TypeId) (s : ByteArray) : LowRow (Lib.bytesWorld w e s) w.heap.size (nums s) := by
  refine ⟨_, e, _, Lib.bytesWorld_at_new w e s, ?_⟩
  have h : (nums s).map (Value.int .u8) = (s.data.map fun b => Value.int .u8 b.toNat).toList := by
    unfold nums
    rw [List.map_map, Array.toList_map]
    rfl
  have h2 : (s.data.map fun b => Value.int .u8 b.toNat).toList.length = (nums s).length := by rw [← h, List.length_map]
  rw [h, Lib.bytesCells, Array.toList_append, ← h2]
  exact List.take_left
theorem bytes_below (w : World) (e : TypeId) (s : ByteArray) : Below w.heap.size w (Lib.bytesWorld w e s) :=
  ⟨by simp [Lib.bytesWorld, World.freeze, World.alloc, World.drew, -World.alloc_eq, -World.drew_eq], by simp [Lib.bytesWorld, World.freeze, World.alloc, World.drew, -World.alloc_eq, -World.drew_eq],
    by simp [Lib.bytesWorld, World.freeze, World.alloc, World.drew, -World.alloc_eq, -World.drew_eq], by rw [Lib.bytesWorld_size]; omega, fun k hk => Lib.bytesWorld_at_old w e s k hk⟩
theorem LowRow.conv {w : World} {p : Nat} {xs : List Int} (h : LowRow w p xs) (n cap : Nat) (hn : xs.length = n) :
    (convert 52 9 (.slice (some ⟨p, 0, none⟩) n cap)).run Try.prog w = .ok (.string (strOfNums xs)) w := by
  refine run_convert_bytes_arg w 52 5 Try.underlying52 Try.underlying5 p 0 n cap xs hn ?_ 9 Try.underlying9
  intro i hi
  rw [Nat.zero_add, h.cellAt i (by omega)]
  simp [List.getD, List.getElem?_eq_getElem (show i < xs.length by omega)]
/-- the row of which k bytes are lowered. -/
def fillL (s : ByteArray) (k : Nat) : List Int := lowL ((nums s).take k) ++ (nums s).drop k
theorem fillL_len (s : ByteArray) (k : Nat) : (fillL s k).length = s.size := by
  unfold fillL lowL
  rw [List.length_append, List.length_map, List.length_take, List.length_drop, nums_length]
  omega
theorem fillL_zero (s : ByteArray) : fillL s 0 = nums s := by unfold fillL lowL; simp
theorem fillL_end (s : ByteArray) : fillL s s.size = lowL (nums s) := by
  unfold fillL
  rw [← nums_length s, List.take_length, List.drop_length, List.append_nil]
theorem nums_take (s : ByteArray) (k : Nat) (h : k < s.size) : (nums s).take (k + 1) = (nums s).take k ++ [(s[k].toNat : Int)] := by
  have h1 := nums_drop s k h
  rw [List.take_add_one]
  have h2 : (nums s)[k]? = some (s[k].toNat : Int) := by
    have := congrArg List.head? h1
    rw [List.head?_drop] at this
    exact this
  rw [h2]
  rfl
theorem fillL_at (s : ByteArray) (k : Nat) (h : k < s.size) : (fillL s k)[k]'(by rw [fillL_len]; exact h) = (s[k].toNat : Int) := by
  have hl : (lowL ((nums s).take k)).length = k := by unfold lowL; rw [List.length_map, List.length_take, nums_length]; omega
  have h3 : (fillL s k)[k]? = some (s[k].toNat : Int) := by
    unfold fillL
    rw [List.getElem?_append_right (by omega), hl, Nat.sub_self, nums_drop s k h]
    rfl
  rw [List.getElem?_eq_getElem (by rw [fillL_len]; exact h)] at h3
  exact Option.some.inj h3
theorem fillL_step (s : ByteArray) (k : Nat) (h : k < s.size) : fillL s (k + 1) = (fillL s k).set k (lowB (s[k].toNat : Int)) := by
  have hl : (lowL ((nums s).take k)).length = k := by unfold lowL; rw [List.length_map, List.length_take, nums_length]; omega
  unfold fillL
  rw [List.set_append_right _ _ (by omega), hl, Nat.sub_self, nums_drop s k h, nums_take s k h]
  unfold lowL
  rw [List.map_append, List.append_assoc]
  rfl
theorem or32 (c : Nat) (h0 : 65 ≤ c) (h1 : c ≤ 90) : bits .or .u8 (c : Int) 32 = (c : Int) + 32 := by
  have h := List.all_eq_true.1 (show ((List.range 256).all fun c => decide (65 ≤ c ∧ c ≤ 90 → bits .or .u8 (c : Int) 32 = (c : Int) + 32)) = true by decide +kernel) c (List.mem_range.2 (by omega))
  exact of_decide_eq_true h ⟨h0, h1⟩
theorem byte256 (s : ByteArray) (k : Nat) (h : k < s.size) : s[k].toNat < 256 := s[k].toBitVec.isLt
set_option maxRecDepth 100000 in
set_option maxHeartbeats 4000000 in
theorem media_Lower (s : ByteArray) (w : World) (hs : s.size ≤ 1099511627776) :
    Calls Try.prog 15 #[.string s] w fun e w' => e = .returned (.string (strOfNums (lowL (nums s)))) ∧ Below w.heap.size w w' := by
  have hcv := Lib.run_convert_string_bytes (P := Try.prog) w 9 52 5 s Try.underlying9 Try.underlying52 Try.underlying5
  obtain ⟨cap, hcap⟩ : ∃ cap, grownCap w s.size 0 5 = cap := ⟨_, rfl⟩
  have hrow := LowRow.made w 5 s
  have hbl := bytes_below w 5 s
  obtain ⟨w1, hw1⟩ : ∃ w1, Lib.bytesWorld w 5 s = w1 := ⟨_, rfl⟩
  rw [hcap, hw1] at hcv
  rw [hw1] at hrow hbl
  clear hw1 hcap
  obtain ⟨p, hp⟩ : ∃ p, w.heap.size = p := ⟨_, rfl⟩
  have HP := Lib.hid hp
  rw [hp] at hcv hrow hbl
  clear hp
  go_enter Try.func15, Try.ntmps15
  go_wp2
  go_loopw [10] (fun i wr => ∃ k : Nat, i = .int .i64 k ∧ k ≤ s.size ∧ LowRow wr p (fillL s k) ∧ Below p w1 wr) (fun i _ => s.size - (intOf i).toNat)
  case atStart => exact ⟨0, rfl, by omega, by rw [fillL_zero]; exact hrow, Below.refl _ _⟩
  case round =>
    obtain ⟨k, rfl, hk, hr, hb⟩ := hrel
    by_cases hlt : k < s.size
    · have hca := hr.cellAt k (by rw [fillL_len]; exact hlt)
      rw [fillL_at s k hlt] at hca
      have hfz := hr.frozenAt k (by rw [fillL_len]; exact hlt)
      have hsn := fillL_step s k hlt
      obtain ⟨c, hc⟩ : ∃ c, s[k].toNat = c := ⟨_, rfl⟩
      have hc256 : c < 256 := by rw [← hc]; exact byte256 s k hlt
      rw [hc] at hca hsn
      by_cases hu : 65 ≤ c ∧ c ≤ 90
      · obtain ⟨hu1, hu2⟩ := hu
        have hor := or32 c hu1 hu2
        have hst := hr.stored k ((c : Int) + 32)
        rw [show lowB (c : Int) = (c : Int) + 32 from if_pos (by omega)] at hsn
        rw [← hsn] at hst
        have HS := Lib.hid hst
        clear hsn hst hc
        have p1 := decide_eq_true (show (65 : Int) ≤ (c : Int) by omega)
        have p2 := decide_eq_true (show (c : Int) ≤ (90 : Int) by omega)
        go_wp2
        exact ⟨⟨k + 1, by go_num, by omega, HS.out, hb.setCell (Nat.le_refl _) _⟩, by simp [intOf]; omega⟩
      · rw [show lowB (c : Int) = (c : Int) from if_neg (by omega)] at hsn
        have hset : (fillL s k).set k (c : Int) = fillL s k := by
          have h4 := fillL_at s k hlt
          rw [hc] at h4
          rw [← h4, List.set_getElem_self]
        rw [hset] at hsn
        have hr' := hr
        rw [← hsn] at hr'
        have HS := Lib.hid hr'
        clear hsn hr' hset hc
        by_cases hv : 65 ≤ c
        · have p1 := decide_eq_true (show (65 : Int) ≤ (c : Int) by omega)
          have p2 := decide_eq_false (show ¬ (c : Int) ≤ (90 : Int) by omega)
          clear hu
          go_wp2
          exact ⟨⟨k + 1, by go_num, by omega, HS.out, hb⟩, by simp [intOf]; omega⟩
        · have p1 := decide_eq_false (show ¬ (65 : Int) ≤ (c : Int) by omega)
          clear hu
          go_wp2
          exact ⟨⟨k + 1, by go_num, by omega, HS.out, hb⟩, by simp [intOf]; omega⟩
    · obtain rfl : k = s.size := by omega
      rw [fillL_end] at hr
      have hcv2 := hr.conv s.size cap (by unfold lowL; rw [List.length_map, nums_length])
      go_wp2
      go_ret
      exact ⟨rfl, by rw [HP.out]; exact hbl.trans hb⟩
set_option maxRecDepth 100000 in
set_option maxHeartbeats 4000000 in
theorem ref06_Lower (s : ByteArray) (w : World) (hs : s.size ≤ 1099511627776) :
    Calls Try.prog 16 #[.string s] w fun e w' => e = .returned (.string (strOfNums (lowL (nums s)))) ∧ Below w.heap.size w w' := by
  have hcv := Lib.run_convert_string_bytes (P := Try.prog) w 9 52 5 s Try.underlying9 Try.underlying52 Try.underlying5
  obtain ⟨cap, hcap⟩ : ∃ cap, grownCap w s.size 0 5 = cap := ⟨_, rfl⟩
  have hrow := LowRow.made w 5 s
  have hbl := bytes_below w 5 s
  obtain ⟨w1, hw1⟩ : ∃ w1, Lib.bytesWorld w 5 s = w1 := ⟨_, rfl⟩
  rw [hcap, hw1] at hcv
  rw [hw1] at hrow hbl
  clear hw1 hcap
  obtain ⟨p, hp⟩ : ∃ p, w.heap.size = p := ⟨_, rfl⟩
  have HP := Lib.hid hp
  rw [hp] at hcv hrow hbl
  clear hp
  go_enter Try.func16, Try.ntmps16
  go_wp2
  go_loopw [4] (fun i wr => ∃ k : Nat, i = .int .i64 k ∧ k ≤ s.size ∧ LowRow wr p (fillL s k) ∧ Below p w1 wr) (fun i _ => s.size - (intOf i).toNat)
  case atStart => exact ⟨0, rfl, by omega, by rw [fillL_zero]; exact hrow, Below.refl _ _⟩
  case round =>
    obtain ⟨k, rfl, hk, hr, hb⟩ := hrel
    by_cases hlt : k < s.size
    · have hca := hr.cellAt k (by rw [fillL_len]; exact hlt)
      rw [fillL_at s k hlt] at hca
      have hfz := hr.frozenAt k (by rw [fillL_len]; exact hlt)
      have hsn := fillL_step s k hlt
      obtain ⟨c, hc⟩ : ∃ c, s[k].toNat = c := ⟨_, rfl⟩
      have hc256 : c < 256 := by rw [← hc]; exact byte256 s k hlt
      rw [hc] at hca hsn
      by_cases hu : 65 ≤ c ∧ c ≤ 90
      · obtain ⟨hu1, hu2⟩ := hu
        have hst := hr.stored k ((c : Int) + 32)
        rw [show lowB (c : Int) = (c : Int) + 32 from if_pos (by omega)] at hsn
        rw [← hsn] at hst
        have HS := Lib.hid hst
        clear hsn hst hc
        have p1 := decide_eq_true (show (65 : Int) ≤ (c : Int) by omega)
        have p2 := decide_eq_true (show (c : Int) ≤ (90 : Int) by omega)
        go_wp2
        exact ⟨⟨k + 1, by go_num, by omega, HS.out, hb.setCell (Nat.le_refl _) _⟩, by simp [intOf]; omega⟩
      · rw [show lowB (c : Int) = (c : Int) from if_neg (by omega)] at hsn
        have hset : (fillL s k).set k (c : Int) = fillL s k := by
          have h4 := fillL_at s k hlt
          rw [hc] at h4
          rw [← h4, List.set_getElem_self]
        rw [hset] at hsn
        have hr' := hr
        rw [← hsn] at hr'
        have HS := Lib.hid hr'
        clear hsn hr' hset hc
        by_cases hv : 65 ≤ c
        · have p1 := decide_eq_true (show (65 : Int) ≤ (c : Int) by omega)
          have p2 := decide_eq_false (show ¬ (c : Int) ≤ (90 : Int) by omega)
          clear hu
          go_wp2
          exact ⟨⟨k + 1, by go_num, by omega, HS.out, hb⟩, by simp [intOf]; omega⟩
        · have p1 := decide_eq_false (show ¬ (65 : Int) ≤ (c : Int) by omega)
          clear hu
          go_wp2
          exact ⟨⟨k + 1, by go_num, by omega, HS.out, hb⟩, by simp [intOf]; omega⟩
    · obtain rfl : k = s.size := by omega
      rw [fillL_end] at hr
      have hcv2 := hr.conv s.size cap (by unfold lowL; rw [List.length_map, nums_length])
      go_wp2
      go_ret
      exact ⟨rfl, by rw [HP.out]; exact hbl.trans hb⟩
end Go.Proofs.Ytjemlaiciacnpaa
