/-
  The walk of layer 7's (*cutter).while, at white and at small.
-/
import Derived.Test.YtaheooedcjjckaaDeA
import Derived.Test.YtaheooedcjjckaaU8C
import Derived.Test.YtaheooedcjjckaaBy
namespace Go.Proofs.Ytaheooedcjjckaa
open Go.RowKit
theorem nums_extD (s : ByteArray) (a b : Nat) : nums (s.extract a b) = ((nums s).drop a).take (b - a) := by
  unfold nums
  rw [ByteArray.data_extract, Array.toList_extract, List.map_take, List.map_drop]
theorem ext_strD (s : ByteArray) (a b : Nat) : s.extract a b = strOfNums (((nums s).drop a).take (b - a)) := by rw [← nums_extD, strOfNums_nums]
theorem tw_stop (P : Int → Bool) : ∀ (l : List Int) (k : Nat), (∀ x ∈ l.take k, P x = true) → (l.length ≤ k ∨ ∃ c, l[k]? = some c ∧ P c = false) → l.takeWhile P = l.take k ∧ l.dropWhile P = l.drop k
  | [], k, _, _ => by simp
  | c :: t, 0, _, h => by
    rcases h with h | ⟨x, hx, hp⟩
    · simp at h
    · have : x = c := by simpa using hx.symm
      subst this
      simp [hp]
  | c :: t, k + 1, ha, h => by
    have hc : P c = true := ha c (by simp)
    obtain ⟨h1, h2⟩ := tw_stop P t k (fun x hx => ha x (by simp [hx])) (by simpa using h)
    simp [hc, h1, h2]
set_option maxHeartbeats 1000000 in
theorem while_white (b : Nat) (s : ByteArray) (w : World) (hs : s.size ≤ 1099511627776) (hc : w.cell? ⟨b, 0, none⟩ = some (.string s)) (hf : w.frozen? ⟨b, 0, none⟩ = false) :
    Calls Try.prog 39 #[.pointer (some ⟨b, 0, none⟩), .func (.func 31) #[] #[]] w fun e w' => e = .returned (.string (strOfNums ((nums s).takeWhile whN))) ∧ w' = w.setCell ⟨b, 0, none⟩ (.string (strOfNums ((nums s).dropWhile whN))) := by
  go_enter Try.func39, Try.ntmps39
  go_wp2
  go_loop [5] (fun i => ∃ k : Nat, i = .int .i64 k ∧ k ≤ s.size ∧ ∀ x ∈ (nums s).take k, whN x = true) (fun i => s.size - (intOf i).toNat)
  case atStart => exact ⟨0, rfl, by omega, by simp⟩
  case round =>
    obtain ⟨k, rfl, hk, hall⟩ := hrel
    by_cases hlt : k < s.size
    · obtain ⟨c, hcc⟩ : ∃ c : Int, (s[k].toNat : Int) = c := ⟨_, rfl⟩
      have hix := index_str s k hlt c k hcc rfl
      have hat : (nums s)[k]? = some c := by rw [List.getElem?_eq_getElem (by rw [nums_length]; exact hlt), nums_at s k hlt, hcc]
      cases hp : whN c with
      | true =>
        have HP := Lib.hid hp
        have hnx : ∀ x ∈ (nums s).take (k + 1), whN x = true := by
          intro x hx
          rw [List.take_add_one, hat] at hx
          simp only [Option.toList_some, List.mem_append, List.mem_singleton] at hx
          rcases hx with hx | rfl
          · exact hall x hx
          · exact hp
        clear hcc hp hat hall
        go_wp2_with fail
        refine (declare_white c _).mono ?_
        rw [HP.out]
        rintro e w' ⟨rfl, rfl⟩
        go_wp2
        exact ⟨⟨k + 1, by go_num, by omega, hnx⟩, by simp [intOf]; omega⟩
      | false =>
        have HP := Lib.hid hp
        obtain ⟨t1, t2⟩ := tw_stop whN (nums s) k hall (.inr ⟨c, hat, hp⟩)
        have E1 : s.extract 0 k = strOfNums ((nums s).takeWhile whN) := by rw [ext_strD, t1, List.drop_zero, Nat.sub_zero]
        have E2 : s.extract k s.size = strOfNums ((nums s).dropWhile whN) := by rw [ext_strD, t2, List.take_of_length_le (by rw [List.length_drop, nums_length]; omega)]
        have hkk : (k : Int) ≤ (s.size : Int) := by omega
        clear hcc hp hat hall t1 t2
        go_wp2_with fail
        refine (declare_white c _).mono ?_
        rw [HP.out]
        rintro e w' ⟨rfl, rfl⟩
        go_wp2
        go_ret
        exact ⟨rfl, rfl⟩
    · obtain ⟨t1, t2⟩ := tw_stop whN (nums s) k hall (.inl (by rw [nums_length]; omega))
      have E1 : s.extract 0 k = strOfNums ((nums s).takeWhile whN) := by rw [ext_strD, t1, List.drop_zero, Nat.sub_zero]
      have E2 : s.extract k s.size = strOfNums ((nums s).dropWhile whN) := by rw [ext_strD, t2, List.take_of_length_le (by rw [List.length_drop, nums_length]; omega)]
      have hkk : (k : Int) ≤ (s.size : Int) := by omega
      clear hall t1 t2
      go_wp2
      go_ret
      exact ⟨rfl, rfl⟩
set_option maxHeartbeats 1000000 in
theorem while_small (b : Nat) (s : ByteArray) (w : World) (hs : s.size ≤ 1099511627776) (hc : w.cell? ⟨b, 0, none⟩ = some (.string s)) (hf : w.frozen? ⟨b, 0, none⟩ = false) :
    Calls Try.prog 39 #[.pointer (some ⟨b, 0, none⟩), .func (.func 40) #[] #[]] w fun e w' => e = .returned (.string (strOfNums ((nums s).takeWhile smN))) ∧ w' = w.setCell ⟨b, 0, none⟩ (.string (strOfNums ((nums s).dropWhile smN))) := by
  go_enter Try.func39, Try.ntmps39
  go_wp2
  go_loop [5] (fun i => ∃ k : Nat, i = .int .i64 k ∧ k ≤ s.size ∧ ∀ x ∈ (nums s).take k, smN x = true) (fun i => s.size - (intOf i).toNat)
  case atStart => exact ⟨0, rfl, by omega, by simp⟩
  case round =>
    obtain ⟨k, rfl, hk, hall⟩ := hrel
    by_cases hlt : k < s.size
    · obtain ⟨c, hcc⟩ : ∃ c : Int, (s[k].toNat : Int) = c := ⟨_, rfl⟩
      have hix := index_str s k hlt c k hcc rfl
      have hat : (nums s)[k]? = some c := by rw [List.getElem?_eq_getElem (by rw [nums_length]; exact hlt), nums_at s k hlt, hcc]
      cases hp : smN c with
      | true =>
        have HP := Lib.hid hp
        have hnx : ∀ x ∈ (nums s).take (k + 1), smN x = true := by
          intro x hx
          rw [List.take_add_one, hat] at hx
          simp only [Option.toList_some, List.mem_append, List.mem_singleton] at hx
          rcases hx with hx | rfl
          · exact hall x hx
          · exact hp
        clear hcc hp hat hall
        go_wp2_with fail
        refine (declare_small c _).mono ?_
        rw [HP.out]
        rintro e w' ⟨rfl, rfl⟩
        go_wp2
        exact ⟨⟨k + 1, by go_num, by omega, hnx⟩, by simp [intOf]; omega⟩
      | false =>
        have HP := Lib.hid hp
        obtain ⟨t1, t2⟩ := tw_stop smN (nums s) k hall (.inr ⟨c, hat, hp⟩)
        have E1 : s.extract 0 k = strOfNums ((nums s).takeWhile smN) := by rw [ext_strD, t1, List.drop_zero, Nat.sub_zero]
        have E2 : s.extract k s.size = strOfNums ((nums s).dropWhile smN) := by rw [ext_strD, t2, List.take_of_length_le (by rw [List.length_drop, nums_length]; omega)]
        have hkk : (k : Int) ≤ (s.size : Int) := by omega
        clear hcc hp hat hall t1 t2
        go_wp2_with fail
        refine (declare_small c _).mono ?_
        rw [HP.out]
        rintro e w' ⟨rfl, rfl⟩
        go_wp2
        go_ret
        exact ⟨rfl, rfl⟩
    · obtain ⟨t1, t2⟩ := tw_stop smN (nums s) k hall (.inl (by rw [nums_length]; omega))
      have E1 : s.extract 0 k = strOfNums ((nums s).takeWhile smN) := by rw [ext_strD, t1, List.drop_zero, Nat.sub_zero]
      have E2 : s.extract k s.size = strOfNums ((nums s).dropWhile smN) := by rw [ext_strD, t2, List.take_of_length_le (by rw [List.length_drop, nums_length]; omega)]
      have hkk : (k : Int) ≤ (s.size : Int) := by omega
      clear hall t1 t2
      go_wp2
      go_ret
      exact ⟨rfl, rfl⟩
end Go.Proofs.Ytaheooedcjjckaa
