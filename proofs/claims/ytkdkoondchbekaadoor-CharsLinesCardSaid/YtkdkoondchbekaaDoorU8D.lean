/-
  The walks of the reference's Next, Scalars, Valid, Text, Loose.
-/
import Derived.Test.YtkdkoondchbekaaDoorU8C
import Derived.Test.YtkdkoondchbekaaDoorU8M
import Derived.Test.YtkdkoondchbekaaDoorSl
namespace Go.Proofs.YtkdkoondchbekaaDoor
open Go.RowKit
attribute [local go_sem] i64_and63 i64_and31 i64_and15 i64_and7
theorem nextR_in {s : ByteArray} {i : Nat} (hi : i < s.size) (hp : 0 ≤ (piece ((nums s).drop i)).1) : nextR s i = piece ((nums s).drop i) := by
  unfold nextR; rw [if_neg (by omega), Int.toNat_natCast, if_neg (by omega)]
theorem nextR_wrong {s : ByteArray} {i : Nat} (hi : i < s.size) (hp : (piece ((nums s).drop i)).1 < 0) : nextR s i = (-1, 0) := by
  unfold nextR; rw [if_neg (by omega), Int.toNat_natCast, if_pos hp]
theorem pR_no {p : Int × Nat} (h : p.1 < 0) : pR p = 0 := if_pos h
theorem pOk_no {p : Int × Nat} (h : p.1 < 0) : pOk p = false := decide_eq_false (by omega)
set_option maxHeartbeats 400000 in
theorem ref02_Next (s : ByteArray) (k : Int) (w : World) (h1 : s.size ≤ 1099511627776) :
    Calls Tryd.prog 42 #[.string s, .int .i64 k] w fun e w' => e = .returned (.tuple #[.int .i64 (pR (nextR s k)), .int .i64 (nextR s k).2, .bool (pOk (nextR s k))]) ∧ w = w' := by
  by_cases h0 : k < 0 ∨ (s.size : Int) ≤ k
  · have HN := Lib.hid (show nextR s k = (-1, 0) by unfold nextR; rw [if_pos h0])
    go_enter Tryd.func42, Tryd.ntmps42
    go_wp2_with fail
    all_goals
      go_ret3
      exact ⟨by rw [HN.out]; rfl, rfl⟩
  · obtain ⟨i, rfl⟩ := Int.eq_ofNat_of_zero_le (show 0 ≤ k by omega)
    have hi : i < s.size := by omega
    clear h0
    by_cases hp : (piece ((nums s).drop i)).1 < 0
    · have HN := Lib.hid (nextR_wrong hi hp)
      have HR := Lib.hid (pR_no hp)
      have HO := Lib.hid (pOk_no hp)
      go_enter Tryd.func42, Tryd.ntmps42
      go_wp2_with (go_at_call 49; refine (ref02_part s i _ hi h1).mono ?_; rw [HR.out, HO.out]; rintro e w' ⟨rfl, rfl⟩)
      go_ret3
      exact ⟨by rw [HN.out]; rfl, rfl⟩
    · have HN := Lib.hid (nextR_in hi (by omega))
      have HR := Lib.hid (pR_of (p := piece ((nums s).drop i)) (by omega))
      have HO := Lib.hid (pOk_of (p := piece ((nums s).drop i)) (by omega))
      go_enter Tryd.func42, Tryd.ntmps42
      go_wp2_with (go_at_call 49; refine (ref02_part s i _ hi h1).mono ?_; rw [HO.out]; rintro e w' ⟨rfl, rfl⟩)
      go_ret3
      exact ⟨by rw [HN.out, HO.out]; rfl, rfl⟩
theorem ref02_Next_no (s : ByteArray) (k : Nat) (w : World) (h1 : s.size ≤ 1099511627776) (hk : k < s.size) (hp : (piece ((nums s).drop k)).1 < 0) :
    Calls Tryd.prog 42 #[.string s, .int .i64 k] w fun e w' => e = .returned (.tuple #[.int .i64 0, .int .i64 0, .bool false]) ∧ w = w' := by
  have h := ref02_Next s k w h1
  rw [nextR_wrong hk hp] at h
  exact h
theorem ref02_Next_ok (s : ByteArray) (k : Nat) (w : World) (h1 : s.size ≤ 1099511627776) (hk : k < s.size) (p : Int × Nat) (he : piece ((nums s).drop k) = p) (hp : 0 ≤ p.1) :
    Calls Tryd.prog 42 #[.string s, .int .i64 k] w fun e w' => e = .returned (.tuple #[.int .i64 p.1, .int .i64 p.2, .bool true]) ∧ w = w' := by
  have h := ref02_Next s k w h1
  rw [nextR_in hk (by rw [he]; exact hp), he, pR_of hp, pOk_of hp] at h
  exact h
theorem utf8_Next_no (s : ByteArray) (k : Nat) (w : World) (h1 : s.size ≤ 1099511627776) (hk : k < s.size) (hp : (piece ((nums s).drop k)).1 < 0) :
    Calls Tryd.prog 47 #[.string s, .int .i64 k] w fun e w' => e = .returned (.tuple #[.int .i64 0, .int .i64 0, .bool false]) ∧ w = w' := by
  have h := utf8_Next s k w h1
  rw [nextR_wrong hk hp] at h
  exact h
theorem utf8_Next_ok (s : ByteArray) (k : Nat) (w : World) (h1 : s.size ≤ 1099511627776) (hk : k < s.size) (p : Int × Nat) (he : piece ((nums s).drop k) = p) (hp : 0 ≤ p.1) :
    Calls Tryd.prog 47 #[.string s, .int .i64 k] w fun e w' => e = .returned (.tuple #[.int .i64 p.1, .int .i64 p.2, .bool true]) ∧ w = w' := by
  have h := utf8_Next s k w h1
  rw [nextR_in hk (by rw [he]; exact hp), he, pR_of hp, pOk_of hp] at h
  exact h
theorem drop_ne {s : ByteArray} {k : Nat} (h : k < s.size) : (nums s).drop k ≠ [] := by rw [nums_drop s k h]; simp
theorem piece_drop_le {s : ByteArray} {k : Nat} (h : k < s.size) : 1 ≤ (piece ((nums s).drop k)).2 ∧ k + (piece ((nums s).drop k)).2 ≤ s.size := by
  have hd := nums_drop s k h
  have hn := piece_n (s[k].toNat : Int) ((nums s).drop (k + 1))
  rw [← hd] at hn
  have hl := nums_length s
  rw [List.length_drop] at hn
  omega
theorem pieces_drop {s : ByteArray} {k : Nat} (h : k < s.size) : pieces ((nums s).drop k) = piece ((nums s).drop k) :: pieces ((nums s).drop (k + (piece ((nums s).drop k)).2)) := by
  rw [pieces_ne _ (drop_ne h), List.drop_drop]
theorem pieces_drop_end {s : ByteArray} {k : Nat} (h : s.size ≤ k) : pieces ((nums s).drop k) = [] := by rw [nums_drop_end s k h]; rfl
/-- so far the text is right, and its scalars are gathered. -/
def ScalAt (s : ByteArray) (w : World) (v at_ : Value) (wr : World) : Prop :=
  ∃ (k : Nat) (done : List (Int × Nat)), at_ = .int .i64 k ∧ k ≤ s.size ∧ done.length ≤ k ∧ done.all okP = true ∧ pieces (nums s) = done ++ pieces ((nums s).drop k) ∧
    wr.ownsRow w.heap.size 3 1 v done.length ((done.map (·.1)).map (Value.int .i64)) ∧ Below w.heap.size w wr
set_option maxHeartbeats 1000000 in
theorem ref02_Scalars (s : ByteArray) (w : World) (h1 : s.size ≤ 1099511627775) :
    Calls Tryd.prog 38 #[.string s] w fun e w' => ∃ v, e = .returned (.tuple #[v, .bool (okAll (nums s))]) ∧ w'.ownsRow w.heap.size 3 1 v (scalL (nums s)).length ((scalL (nums s)).map (Value.int .i64)) ∧ Below w.heap.size w w' := by
  go_enter Tryd.func38, Tryd.ntmps38
  go_wp2_with fail
  go_loopw [4, 5] (fun v a wr => ScalAt s w v a wr) (fun _ a _ => s.size - (intOf a).toNat)
  case atStart => exact ⟨0, [], rfl, by omega, by simp, rfl, by simp, World.ownsRow_nil _ _ _ _, Below.refl _ _⟩
  case round =>
    obtain ⟨k, done, rfl, hk, hdk, hok, hq, hown, hb⟩ := hrel
    by_cases hlt : k < s.size
    · have hpd := pieces_drop hlt
      have hpl := piece_drop_le hlt
      obtain ⟨p, hp⟩ : ∃ p, piece ((nums s).drop k) = p := ⟨_, rfl⟩
      by_cases hneg : p.1 < 0
      · have hall : okAll (nums s) = false := by unfold okAll; rw [hq, hpd, List.all_append, List.all_cons, hp]; simp [okP]; omega
        have hsc : scalL (nums s) = [] := by unfold scalL; rw [if_neg (by rw [hall]; decide)]
        have HS := Lib.hid hsc
        have HA := Lib.hid hall
        clear hall hsc hpd hq hok
        go_wp2_with (go_at_call 42; refine (ref02_Next_no s k _ (by omega) hlt (by rw [hp]; exact hneg)).mono ?_; rintro e w' ⟨rfl, rfl⟩)
        go_ret2
        exact ⟨_, by rw [HA.out]; rfl, by rw [HS.out]; exact World.ownsRow_nil _ _ _ _, hb⟩
      · obtain ⟨v', w1, hr, ho1, hb1, _⟩ := app_int wr w.heap.size u4 done.length (done.map (·.1)) hown p.1 (by omega) hb.size
        have hrel1 : ∀ x, x = Value.int .i64 (k + p.2 : Nat) → ScalAt s w v' x w1 := fun x hx => ⟨k + p.2, done ++ [p], hx, by rw [hp] at hpl; omega, by rw [hp] at hpl; simp; omega, by rw [List.all_append, hok]; simp [okP]; omega, by rw [hq, hpd, hp]; simp, by simpa using ho1, hb.trans hb1⟩
        have hpl2 : 1 ≤ p.2 ∧ k + p.2 ≤ s.size := by rw [hp] at hpl; exact hpl
        have HP := Lib.hid hp
        have HR := Lib.hid hr
        clear hpd hq hok hp hown ho1 hb1 hpl hr
        go_wp2_with (first
          | (at_builtin; refine wpList_append_run rfl _ _ _ _ rfl _ _ rfl rfl _ _ HR.out ?_)
          | (go_at_call 42; refine (ref02_Next_ok s k _ (by omega) hlt p HP.out (by omega)).mono ?_; rintro e w' ⟨rfl, rfl⟩))
        exact ⟨hrel1 _ (by go_num), by simp [intOf]; omega⟩
    · have hend := pieces_drop_end (s := s) (k := k) (by omega)
      rw [hend, List.append_nil] at hq
      have hall : okAll (nums s) = true := by unfold okAll; rw [hq]; exact hok
      have hsc : scalL (nums s) = done.map (·.1) := by unfold scalL; rw [if_pos hall, hq]
      have HS := Lib.hid hsc
      have HA := Lib.hid hall
      clear hall hsc hend hq hok
      go_wp2
      go_ret2
      exact ⟨_, by rw [HA.out]; rfl, by rw [HS.out]; simpa using hown, hb⟩
set_option maxHeartbeats 400000 in
theorem ref02_Valid (s : ByteArray) (w : World) (h1 : s.size ≤ 1099511627775) :
    Calls Tryd.prog 15 #[.string s] w fun e w' => e = .returned (.bool (okAll (nums s))) ∧ Below w.heap.size w w' := by
  go_enter Tryd.func15, Tryd.ntmps15
  go_wp2_with (go_at_call 38; refine (ref02_Scalars s _ h1).mono ?_; rintro e w' ⟨v, rfl, _, hb⟩)
  go_ret
  exact ⟨rfl, hb⟩
theorem take_snoc {α : Type} (l : List α) (k : Nat) (h : k < l.length) : l.take (k + 1) = l.take k ++ [l[k]] := by
  rw [List.take_succ_eq_append_getElem h]
theorem scAll_snoc (l : List Int) (x : Int) : scAll (l ++ [x]) = (scAll l && isSc x) := by simp [scAll]
theorem encAll_snoc (l : List Int) (x : Int) : encAll (l ++ [x]) = encAll l ++ encN x := by simp [encAll]
theorem scAll_take {l : List Int} {k : Nat} (h : k < l.length) (hx : isSc l[k] = false) : scAll l = false := by
  unfold scAll
  rw [List.all_eq_false]
  exact ⟨l[k], List.getElem_mem h, by simp [hx]⟩
theorem textS_yes {l : List Int} (h : scAll l = true) : textS l = strOfNums (encAll l) := if_pos h
theorem textS_no {l : List Int} (h : scAll l = false) : textS l = ⟨#[]⟩ := by unfold textS; rw [if_neg (by rw [h]; decide)]; rfl
theorem encS_nums (r : Int) : ((encS r).data.toList.map fun c => (c.toNat : Int)) = encN r := by
  refine nums_strOfNums (encN r) ?_
  unfold encN
  by_cases h : isSc r = true
  · have hb := isSc_bd h
    rw [if_neg (by rw [h]; decide)]
    (repeat' split) <;> (intro x hx; simp only [List.mem_cons, List.not_mem_nil, or_false] at hx; omega)
  · rw [if_pos (by simpa using h)]
    intro x hx
    cases hx
theorem encS_size (r : Int) : (encS r).size = (encN r).length := strOfNums_size _
/-- so far all are scalars, and their bytes are gathered. -/
def TextAt (xs : List Int) (w : World) (v i : Value) (wr : World) : Prop :=
  ∃ k : Nat, i = .int .i64 k ∧ k ≤ xs.length ∧ scAll (xs.take k) = true ∧ wr.ownsRow w.heap.size 5 1 v (encAll (xs.take k)).length ((encAll (xs.take k)).map (Value.int .u8)) ∧ Below w.heap.size w wr
theorem nums_extract (s : ByteArray) (a b : Nat) : ((s.extract a b).data.toList.map fun c => (c.toNat : Int)) = ((nums s).drop a).take (b - a) := by
  rw [ByteArray.data_extract, Array.toList_extract]
  unfold nums
  rw [List.extract_eq_take_drop, List.map_take, List.map_drop]
theorem firstP_lo : ∀ (a : Nat) (l : List (Int × Nat)), -1 ≤ firstP a l
  | _, [] => by simp [firstP]
  | a, p :: r => by
    rw [firstP]
    split
    · omega
    · exact firstP_lo _ r
theorem firstP_snoc (p : Int × Nat) : ∀ (a : Nat) (l : List (Int × Nat)), firstP a (l ++ [p]) = if firstP a l < 0 then (if p.1 < 0 then ((a + (l.map (·.2)).sum : Nat) : Int) else -1) else firstP a l
  | a, [] => by simp [firstP]
  | a, q :: r => by
    rw [List.cons_append, firstP, firstP]
    by_cases h : q.1 < 0
    · rw [if_pos h, if_pos h, if_neg (by omega)]
    · rw [if_neg h, if_neg h, firstP_snoc p (a + q.2) r]
      simp [Nat.add_assoc]
end Go.Proofs.YtkdkoondchbekaaDoor
