/-
  The library's ReplaceAll and Cut in plain terms: lines, colons. No program in sight.
-/
import Derived.Test.YtkdkoondchbekaaChQ
import Derived.Lib.ReplaceLaws
import Derived.Lib.CutLaws
namespace Go.Proofs.Ytkdkoondchbekaa
open Go.Lib
theorem index_cons (c : UInt8) (t sub : List UInt8) (hn : sub.isPrefixOf (c :: t) = false) : Lib.index (c :: t) sub = if Lib.index t sub = -1 then -1 else Lib.index t sub + 1 := by
  rw [Lib.index, hn]
  simp
theorem index_pre (s sub : List UInt8) (h : sub.isPrefixOf s = true) : Lib.index s sub = 0 := Lib.index_first (i := 0) (Nat.zero_le _) (by simpa [Lib.occAt] using h) (fun _ h => absurd h (Nat.not_lt_zero _))
theorem rep_nil (old new : List UInt8) (h0 : old ≠ []) : Lib.replaceAll [] old new = [] := by
  unfold Lib.replaceAll Lib.replace
  split
  · rfl
  · have hi : Lib.index [] old = -1 := by
      cases old with
      | nil => exact absurd rfl h0
      | cons a b => rfl
    have : Lib.replaceNum [] old (-1) = 0 := by unfold Lib.replaceNum; rw [if_pos (.inl (by decide)), Lib.count_miss hi]
    rw [this]; rfl
theorem rep_num (s old : List UInt8) : Lib.replaceNum s old (-1) = Lib.count s old := by unfold Lib.replaceNum; rw [if_pos (.inl (by decide))]
theorem rep_hit (s old new : List UInt8) (h0 : old ≠ []) (hne : (old == new) = false) (hp : old.isPrefixOf s = true) : Lib.replaceAll s old new = new ++ Lib.replaceAll (s.drop old.length) old new := by
  unfold Lib.replaceAll Lib.replace
  rw [hne, if_neg (by decide), if_neg (by decide), rep_num, rep_num]
  have hi := index_pre s old hp
  rw [Lib.count_hit (i := 0) h0 hi, Nat.add_comm, Lib.replaceK_hit old new _ s 0 hi]
  simp
theorem rep_miss (c : UInt8) (t old new : List UInt8) (h0 : old ≠ []) (hne : (old == new) = false) (hp : old.isPrefixOf (c :: t) = false) : Lib.replaceAll (c :: t) old new = c :: Lib.replaceAll t old new := by
  unfold Lib.replaceAll Lib.replace
  rw [hne, if_neg (by decide), if_neg (by decide), rep_num, rep_num]
  have hc := index_cons c t old hp
  by_cases hm : Lib.index t old = -1
  · rw [if_pos hm] at hc
    rw [Lib.count_miss hc, Lib.count_miss hm]; rfl
  · rw [if_neg hm] at hc
    have hg := Lib.index_ge t old
    obtain ⟨i, hi⟩ : ∃ i : Nat, Lib.index t old = i := ⟨(Lib.index t old).toNat, by omega⟩
    have hi' : Lib.index (c :: t) old = ((i + 1 : Nat) : Int) := by rw [hc, hi]; rfl
    have e1 : (c :: t).drop (i + 1 + old.length) = t.drop (i + old.length) := by rw [show i + 1 + old.length = (i + old.length) + 1 by omega]; rfl
    rw [Lib.count_hit h0 hi', Lib.count_hit h0 hi, e1, Nat.add_comm 1, Lib.replaceK_hit old new _ _ _ hi', Lib.replaceK_hit old new _ _ _ hi, e1]
    simp
/-- bytes as numbers. -/
def numsL (l : List UInt8) : List Int := l.map fun c => (c.toNat : Int)
theorem numsL_of (s : ByteArray) : numsL s.data.toList = nums s := rfl
theorem numsL_mk (l : List UInt8) : nums ⟨l.toArray⟩ = numsL l := by unfold nums numsL; simp
theorem u8_eq (c : UInt8) (n : Nat) (hn : n < 256) : (c.toNat : Int) = (n : Int) ↔ c = UInt8.ofNat n := by
  constructor
  · intro h
    apply UInt8.toNat_inj.1
    rw [UInt8.toNat_ofNat']
    omega
  · intro h
    rw [h, UInt8.toNat_ofNat']
    omega
theorem rep_lines : ∀ (k : Nat) (l : List UInt8), l.length ≤ k → numsL (Lib.replaceAll (Lib.replaceAll l [13, 10] [10]) [13] [10]) = linesN (numsL l)
  | 0, l, h => by
    obtain rfl : l = [] := List.eq_nil_of_length_eq_zero (by omega)
    rw [rep_nil _ _ (by decide), rep_nil _ _ (by decide)]; rfl
  | k + 1, [], _ => by rw [rep_nil _ _ (by decide), rep_nil _ _ (by decide)]; rfl
  | k + 1, [c], _ => by
    rw [rep_miss c [] _ _ (by decide) (by decide) (by simp [List.isPrefixOf]), rep_nil _ _ (by decide)]
    by_cases hc : c = 13
    · subst hc; rfl
    · have hn : ¬ ((c.toNat : Int) = 13) := fun e => hc ((u8_eq c 13 (by decide)).1 e)
      rw [rep_miss c [] _ _ (by decide) (by decide) (by simp [List.isPrefixOf]; exact fun e => hc e.symm), rep_nil _ _ (by decide)]
      simp [numsL, linesN, hn]
  | k + 1, c :: d :: t, h => by
    simp only [List.length_cons] at h
    by_cases hp : c = 13 ∧ d = 10
    · obtain ⟨rfl, rfl⟩ := hp
      have ih := rep_lines k t (by omega)
      rw [rep_hit (13 :: 10 :: t) _ _ (by decide) (by decide) (by simp [List.isPrefixOf])]
      show numsL (Lib.replaceAll (10 :: Lib.replaceAll t [13, 10] [10]) [13] [10]) = _
      rw [rep_miss 10 _ _ _ (by decide) (by decide) (by simp [List.isPrefixOf])]
      show (10 : Int) :: numsL _ = _
      rw [ih]
      show _ = linesN (13 :: 10 :: numsL t)
      simp [linesN]
    · have ih := rep_lines k (d :: t) (by simp only [List.length_cons]; omega)
      rw [rep_miss c (d :: t) _ _ (by decide) (by decide) (by simp [List.isPrefixOf]; exact fun e1 e2 => hp ⟨e1.symm, e2.symm⟩)]
      by_cases hc : c = 13
      · subst hc
        have hd : ¬ ((d.toNat : Int) = 10) := fun e => hp ⟨rfl, (u8_eq d 10 (by decide)).1 e⟩
        rw [rep_hit (13 :: _) _ _ (by decide) (by decide) (by simp [List.isPrefixOf])]
        show (10 : Int) :: numsL (Lib.replaceAll (Lib.replaceAll (d :: t) [13, 10] [10]) [13] [10]) = linesN (13 :: (d.toNat : Int) :: numsL t)
        rw [ih, linesN, if_pos rfl, if_neg (by simpa using hd)]; rfl
      · have hn : ¬ ((c.toNat : Int) = 13) := fun e => hc ((u8_eq c 13 (by decide)).1 e)
        rw [rep_miss c _ _ _ (by decide) (by decide) (by simp [List.isPrefixOf]; exact fun e => hc e.symm)]
        show (c.toNat : Int) :: numsL _ = linesN ((c.toNat : Int) :: numsL (d :: t))
        rw [ih, linesN, if_neg hn]
/-- what strings.Cut at a colon is. -/
theorem cut_colon : ∀ (l : List UInt8), numsL (Lib.cut l [58]).1 = (cutN (numsL l)).1 ∧ numsL (Lib.cut l [58]).2.1 = (cutN (numsL l)).2.1 ∧ (Lib.cut l [58]).2.2 = (cutN (numsL l)).2.2
  | [] => by simp [Lib.cut, Lib.index, numsL, cutN]
  | c :: t => by
    obtain ⟨i1, i2, i3⟩ := cut_colon t
    by_cases hc : c = 58
    · subst hc
      have hi := index_pre (58 :: t) [58] (by simp [List.isPrefixOf])
      unfold Lib.cut
      rw [hi]
      simp [numsL, cutN]
    · have hn : ¬ ((c.toNat : Int) = 58) := fun e => hc ((u8_eq c 58 (by decide)).1 e)
      have hi := index_cons c t [58] (by simp [List.isPrefixOf]; exact fun e => hc e.symm)
      have hg := Lib.index_ge t [58]
      show _ = (cutN ((c.toNat : Int) :: numsL t)).1 ∧ _ = (cutN ((c.toNat : Int) :: numsL t)).2.1 ∧ _ = (cutN ((c.toNat : Int) :: numsL t)).2.2
      rw [cutN, if_neg hn]
      by_cases hm : Lib.index t [58] = -1
      · have e : Lib.cut t [58] = (t, [], false) := by unfold Lib.cut; rw [hm, if_neg (by decide)]
        have e' : Lib.cut (c :: t) [58] = (c :: t, [], false) := by unfold Lib.cut; rw [hi, if_pos hm, if_neg (by decide)]
        rw [e] at i1 i2 i3
        rw [e', ← i1, ← i2, ← i3]
        exact ⟨rfl, rfl, rfl⟩
      · obtain ⟨i, hii⟩ : ∃ i : Nat, Lib.index t [58] = i := ⟨(Lib.index t [58]).toNat, by omega⟩
        have e : Lib.cut t [58] = (t.take i, t.drop (i + 1), true) := by unfold Lib.cut; rw [hii, if_pos (by omega)]; simp
        have e' : Lib.cut (c :: t) [58] = (c :: t.take i, t.drop (i + 1), true) := by unfold Lib.cut; rw [hi, if_neg hm, hii, if_pos (by omega)]; simp
        rw [e] at i1 i2 i3
        rw [e', ← i1, ← i2, ← i3]
        exact ⟨rfl, rfl, rfl⟩
theorem indexByte_13 (l : List UInt8) (h : Lib.indexByte l 13 < 0) : linesN (numsL l) = numsL l := by
  have hg := Lib.indexByte_ge l 13
  have hk := Lib.indexByte_none (l := l) (c := 13) (by omega)
  apply lines_id
  intro hm
  obtain ⟨c, hc, e⟩ := List.mem_map.1 hm
  obtain ⟨k, hk', hk2⟩ := List.getElem_of_mem hc
  exact hk k (by rw [List.getElem?_eq_getElem hk', hk2]; exact congrArg some ((u8_eq c 13 (by decide)).1 e))
end Go.Proofs.Ytkdkoondchbekaa
