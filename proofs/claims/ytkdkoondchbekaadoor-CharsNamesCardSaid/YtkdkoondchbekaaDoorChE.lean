/-
  The walks of chars' Split and Lines, on the library's contracts.
-/
import Derived.Test.YtkdkoondchbekaaDoorChB
import Derived.Test.YtkdkoondchbekaaDoorChD
import Derived.Test.YtkdkoondchbekaaDoorChR
import Derived.Test.YtkdkoondchbekaaDoorLib
namespace Go.Proofs.YtkdkoondchbekaaDoor
open Go.RowKit
theorem rep_len (old new : List UInt8) (h0 : old ≠ []) (hne : (old == new) = false) (hl : new.length ≤ old.length) : ∀ (k : Nat) (l : List UInt8), l.length ≤ k → (Lib.replaceAll l old new).length ≤ l.length
  | _, [], _ => by rw [rep_nil _ _ h0]; simp
  | 0, c :: t, h => by simp at h
  | k + 1, c :: t, h => by
    simp only [List.length_cons] at h
    cases hp : old.isPrefixOf (c :: t) with
    | true =>
      rw [rep_hit _ _ _ h0 hne hp]
      have hol : old.length ≤ (c :: t).length := (List.isPrefixOf_iff_prefix.1 hp).length_le
      have h1 : 1 ≤ old.length := by cases old with | nil => exact absurd rfl h0 | cons a b => simp
      have := rep_len old new h0 hne hl k ((c :: t).drop old.length) (by rw [List.length_drop]; simp only [List.length_cons] at *; omega)
      rw [List.length_drop] at this
      rw [List.length_append]
      omega
    | false =>
      rw [rep_miss _ _ _ _ h0 hne hp]
      have := rep_len old new h0 hne hl k t (by omega)
      simp only [List.length_cons]
      omega
theorem mk_size (l : List UInt8) : (⟨l.toArray⟩ : ByteArray).size = l.length := by simp [ByteArray.size]
theorem mk_nums (l : List UInt8) : (⟨l.toArray⟩ : ByteArray) = strOfNums (numsL l) := by rw [← numsL_mk, strOfNums_nums]
set_option maxHeartbeats 1000000 in
theorem chars_Lines (s : ByteArray) (m : Int) (w : World) (hs : s.size ≤ 4000000) (hm : w.cell? ⟨0, 0, none⟩ = some (.int .i64 m)) :
    Calls Tryd.prog 10 #[.string s] w fun e w' => e = .returned (.string (strOfNums (linesN (nums s)))) ∧ Below w.heap.size w w' := by
  have hgw : 0 < w.heap.size := by
    simp only [World.cell?] at hm
    by_cases hlt : 0 < w.heap.size
    · exact hlt
    · rw [Array.getElem?_eq_none (by omega)] at hm; simp at hm
  have hI : ∀ w, Calls Tryd.prog 32 #[.string s, .int .u8 13] w fun e w' => e = .returned (.int .i64 (Lib.indexByte s.data.toList 13)) ∧ w' = w := fun w => Tryd.strings_IndexByte s 13 w
  have hno := indexByte_13 s.data.toList
  rw [numsL_of] at hno
  obtain ⟨d, hd⟩ : ∃ d, Lib.indexByte s.data.toList 13 = d := ⟨_, rfl⟩
  rw [hd] at hI hno
  clear hd
  by_cases hd0 : d < 0
  · have HE := Lib.hid (show s = strOfNums (linesN (nums s)) by rw [hno hd0, strOfNums_nums])
    have HI := Lib.hid hI
    clear hno hI
    go_enter Tryd.func10, Tryd.ntmps10
    go_wp2_with (go_at_call 32; refine (HI.out _).mono ?_; rintro e w' ⟨rfl, rfl⟩)
    go_ret
    exact ⟨ret_str HE.out, Below.refl _ _⟩
  · have hl := rep_lines s.data.toList.length s.data.toList (Nat.le_refl _)
    rw [numsL_of] at hl
    have hs' : s.data.toList.length ≤ 4000000 := by rw [Array.length_toList]; exact hs
    have hl1 := rep_len [13, 10] [10] (by decide) (by decide) (by decide) _ s.data.toList (Nat.le_refl _)
    have hc1 := Lib.countB_le (⟨#[13, 10]⟩ : ByteArray) (by decide) _ s (Nat.le_refl _)
    have R1 := Tryd.strings_ReplaceAll s ⟨#[13, 10]⟩ ⟨#[10]⟩ m w (by omega) hm (by decide) (by show s.size + Lib.countB s ⟨#[13, 10]⟩ * 1 ≤ _; omega)
    obtain ⟨t, ht⟩ : ∃ t : ByteArray, t = ⟨(Lib.replaceAll s.data.toList [13, 10] [10]).toArray⟩ := ⟨_, rfl⟩
    have htd : t.data.toList = Lib.replaceAll s.data.toList [13, 10] [10] := by rw [ht]
    have hts : t.size ≤ 4000000 := by rw [ht, mk_size]; omega
    have hc2 := Lib.countB_le (⟨#[13]⟩ : ByteArray) (by decide) _ t (Nat.le_refl _)
    have R2 := fun (w1 : World) (hm1 : w1.cell? ⟨0, 0, none⟩ = some (.int .i64 m)) => Tryd.strings_ReplaceAll t ⟨#[13]⟩ ⟨#[10]⟩ m w1 (by omega) hm1 (by decide) (by show t.size + Lib.countB t ⟨#[13]⟩ * 1 ≤ _; omega)
    have R1' : Calls Tryd.prog 33 #[.string s, .string ⟨#[13, 10]⟩, .string ⟨#[10]⟩] w fun e w' => e = .returned (.string t) ∧ Below w.heap.size w w' := by rw [ht]; exact R1
    have hfin : (⟨(Lib.replaceAll t.data.toList [13] [10]).toArray⟩ : ByteArray) = strOfNums (linesN (nums s)) := by rw [mk_nums, htd, hl]
    obtain ⟨u, hu⟩ : ∃ u : ByteArray, u = strOfNums (linesN (nums s)) := ⟨_, rfl⟩
    have R2' : ∀ (w1 : World) (hm1 : w1.cell? ⟨0, 0, none⟩ = some (.int .i64 m)), Calls Tryd.prog 33 #[.string t, .string ⟨#[13]⟩, .string ⟨#[10]⟩] w1 fun e w' => e = .returned (.string u) ∧ Below w1.heap.size w1 w' := by
      intro w1 hm1
      rw [hu, ← hfin]
      exact R2 w1 hm1
    have HU := Lib.hid hu
    have HI := Lib.hid hI
    have H1 := Lib.hid R1'
    have H2 := Lib.hid R2'
    have HM := Lib.hid hm
    clear hno hI hu hfin R1 R2 R1' R2' ht htd hl hl1 hc1 hc2 hs' hm
    go_enter Tryd.func10, Tryd.ntmps10
    go_wp2_with (go_at_call 32; refine (HI.out _).mono ?_; rintro e w' ⟨rfl, rfl⟩)
    refine H1.out.mono ?_
    rintro e w1 ⟨rfl, hb1⟩
    go_wp2_with fail
    refine (H2.out w1 ((hb1.cell (p := ⟨0, 0, none⟩) hgw).trans HM.out)).mono ?_
    rintro e w2 ⟨rfl, hb2⟩
    go_wp2_with fail
    go_ret
    exact ⟨ret_str HU.out, hb1.trans (hb2.mono hb1.size)⟩
set_option maxHeartbeats 1000000 in
theorem chars_Split (s : ByteArray) (m : Int) (w : World) (hs : s.size ≤ 4000000) (hm : w.cell? ⟨0, 0, none⟩ = some (.int .i64 m)) :
    Calls Tryd.prog 11 #[.string s] w fun e w' => e = .returned (spOut (nums s)) ∧ Below w.heap.size w w' := by
  have hC := Tryd.strings_Cut s ⟨#[58]⟩ m w (by omega) hm
  obtain ⟨h1, h2, h3⟩ := cut_colon s.data.toList
  rw [numsL_of] at h1 h2 h3
  obtain ⟨a, ha⟩ : ∃ a : ByteArray, a = ⟨(Lib.cut s.data.toList [58]).1.toArray⟩ := ⟨_, rfl⟩
  obtain ⟨b, hb⟩ : ∃ b : ByteArray, b = ⟨(Lib.cut s.data.toList [58]).2.1.toArray⟩ := ⟨_, rfl⟩
  have hC' : Calls Tryd.prog 34 #[.string s, .string ⟨#[58]⟩] w fun e w' => e = .returned (.tuple #[.string a, .string b, .bool (cutN (nums s)).2.2]) ∧ ∃ n, w' = w.drewN n := by rw [ha, hb, ← h3]; exact hC
  have hna : nums a = (cutN (nums s)).1 := by rw [ha, numsL_mk, h1]
  have hnb : nums b = (cutN (nums s)).2.1 := by rw [hb, numsL_mk, h2]
  have hcl : ∀ l : List Int, (cutN l).1.length + (cutN l).2.1.length ≤ l.length := by
    intro l
    induction l with
    | nil => simp [cutN]
    | cons c t ih =>
      rw [cutN]
      split
      · simp
      · simp only [List.length_cons]; omega
  have hcl' := hcl (nums s)
  rw [← hna, ← hnb, nums_length, nums_length, nums_length] at hcl'
  have has : a.size ≤ 137438953472 := by omega
  have hbs : b.size ≤ 137438953472 := by omega
  have HC := Lib.hid hC'
  have hA : strOfNums (nums a) = a := strOfNums_nums a
  have hB : strOfNums (nums b) = b := strOfNums_nums b
  clear hC hC' h1 h2 h3 ha hb hcl
  cases ho : (cutN (nums s)).2.2 with
  | false =>
    have HO := Lib.hid ho
    cases hp : plainN (nums s) with
    | false =>
      have HS := Lib.hid (show splitN (nums s) = ([], [], false) by unfold splitN; rw [ho, if_neg (by decide), hp, if_neg (by decide)])
      have HP := Lib.hid hp
      clear ho hp hna hnb hA hB
      go_enter Tryd.func11, Tryd.ntmps11
      go_wp2_with fail
      refine HC.out.mono ?_
      rw [HO.out]
      rintro e w' ⟨rfl, n, rfl⟩
      go_wp2_with fail
      refine (chars_Plain s _ (by omega)).mono ?_
      rw [HP.out]
      rintro e w1 ⟨rfl, hb1⟩
      go_wp2
      go_ret3
      exact ⟨spOut_of HS.out rfl rfl, (below_dn (Below.refl _ w) n).trans hb1⟩
    | true =>
      have HS := Lib.hid (show splitN (nums s) = ([], nums s, true) by unfold splitN; rw [ho, if_neg (by decide), hp, if_pos rfl])
      have HP := Lib.hid hp
      clear ho hp hna hnb hA hB
      go_enter Tryd.func11, Tryd.ntmps11
      go_wp2_with fail
      refine HC.out.mono ?_
      rw [HO.out]
      rintro e w' ⟨rfl, n, rfl⟩
      go_wp2_with fail
      refine (chars_Plain s _ (by omega)).mono ?_
      rw [HP.out]
      rintro e w1 ⟨rfl, hb1⟩
      go_wp2
      go_ret3
      exact ⟨spOut_of HS.out rfl (strOfNums_nums s).symm, (below_dn (Below.refl _ w) n).trans hb1⟩
  | true =>
    have HO := Lib.hid ho
    cases hp1 : plainN (nums a) with
    | false =>
      have HS := Lib.hid (show splitN (nums s) = ([], [], false) by unfold splitN; rw [ho, if_pos rfl, ← hna, hp1, if_neg (by simp)])
      have HP := Lib.hid hp1
      clear ho hp1 hna hnb hA hB
      go_enter Tryd.func11, Tryd.ntmps11
      go_wp2_with fail
      refine HC.out.mono ?_
      rw [HO.out]
      rintro e w' ⟨rfl, n, rfl⟩
      go_wp2_with fail
      refine (chars_Plain a _ has).mono ?_
      rw [HP.out]
      rintro e w1 ⟨rfl, hb1⟩
      go_wp2
      go_ret3
      exact ⟨spOut_of HS.out rfl rfl, (below_dn (Below.refl _ w) n).trans hb1⟩
    | true =>
      have HP := Lib.hid hp1
      cases hp2 : plainN (nums b) with
      | false =>
        have HS := Lib.hid (show splitN (nums s) = ([], [], false) by unfold splitN; rw [ho, if_pos rfl, ← hna, ← hnb, hp2, if_neg (by simp)])
        have HQ := Lib.hid hp2
        clear ho hp1 hp2 hna hnb hA hB
        go_enter Tryd.func11, Tryd.ntmps11
        go_wp2_with fail
        refine HC.out.mono ?_
        rw [HO.out]
        rintro e w' ⟨rfl, n, rfl⟩
        go_wp2_with fail
        refine (chars_Plain a _ has).mono ?_
        rw [HP.out]
        rintro e w1 ⟨rfl, hb1⟩
        go_wp2_with fail
        refine (chars_Plain b _ hbs).mono ?_
        rw [HQ.out]
        rintro e w2 ⟨rfl, hb2⟩
        go_wp2
        go_ret3
        exact ⟨spOut_of HS.out rfl rfl, (below_dn (Below.refl _ w) n).trans (hb1.trans (hb2.mono hb1.size))⟩
      | true =>
        have HS := Lib.hid (show splitN (nums s) = (nums a, nums b, true) by unfold splitN; rw [ho, if_pos rfl, ← hna, ← hnb, hp1, hp2, if_pos (show (true && true) = true from rfl)])
        have HQ := Lib.hid hp2
        have HA := Lib.hid hA
        have HB := Lib.hid hB
        clear ho hp1 hp2 hna hnb hA hB
        go_enter Tryd.func11, Tryd.ntmps11
        go_wp2_with fail
        refine HC.out.mono ?_
        rw [HO.out]
        rintro e w' ⟨rfl, n, rfl⟩
        go_wp2_with fail
        refine (chars_Plain a _ has).mono ?_
        rw [HP.out]
        rintro e w1 ⟨rfl, hb1⟩
        go_wp2_with fail
        refine (chars_Plain b _ hbs).mono ?_
        rw [HQ.out]
        rintro e w2 ⟨rfl, hb2⟩
        go_wp2
        go_ret3
        exact ⟨spOut_of HS.out HA.out.symm HB.out.symm, (below_dn (Below.refl _ w) n).trans (hb1.trans (hb2.mono hb1.size))⟩
end Go.Proofs.YtkdkoondchbekaaDoor
