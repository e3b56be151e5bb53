/-
  Layer 8, in plain terms: what is encoded is decoded; marks and charsets.
-/
import Derived.Test.YthahfoliblgegaaGreatDoorSnJ
namespace Go.Proofs.YthahfoliblgegaaGreatDoor
open Go.RowKit
/-! one byte to a scalar, there and back -/
theorem findI_some {x y : Int} : ∀ (xs : List Int) (k : Int), findI xs k x = some y → ∃ i : Nat, y = k + i ∧ xs[i]? = some x
  | [], _, h => by cases h
  | z :: r, k, h => by
    rw [findI] at h
    by_cases hz : (z == x) = true
    · rw [if_pos hz] at h
      cases h
      exact ⟨0, by simp, by simpa using hz⟩
    · rw [if_neg hz] at h
      obtain ⟨i, h1, h2⟩ := findI_some r (k + 1) h
      exact ⟨i + 1, by omega, by simpa using h2⟩
theorem byte_back {e x y : Int} (he : isEnc e = true) (h : byteOf e x = some y) : 0 ≤ y ∧ y < 256 ∧ encOf e y = x := by
  obtain ⟨i, h1, h2⟩ := findI_some _ _ h
  rw [tabL_yes he, List.getElem?_map] at h2
  cases hr : (List.range 256)[i]? with
  | none => rw [hr] at h2; cases h2
  | some j =>
    rw [hr] at h2
    obtain ⟨h3, h4⟩ := List.getElem?_eq_some_iff.1 hr
    rw [List.getElem_range] at h4
    rw [List.length_range] at h3
    subst h4
    have h5 : encOf e (i : Int) = x := by simpa using h2
    have h6 : y = (i : Int) := by omega
    rw [h6]
    exact ⟨by omega, by omega, h5⟩
theorem badAt_lo (e : Int) : ∀ (a : Nat) (l : List (Int × Nat)), badAt e a l = -1 ∧ (∀ p ∈ l, badP e p = false) ∨ 0 ≤ badAt e a l
  | _, [] => .inl ⟨rfl, fun _ h => by cases h⟩
  | a, p :: r => by
    rw [badAt]
    cases hp : badP e p with
    | true => rw [if_pos rfl]; exact .inr (by omega)
    | false =>
      rw [if_neg (by decide)]
      rcases badAt_lo e (a + p.2) r with ⟨h1, h2⟩ | h
      · refine .inl ⟨h1, fun q hq => ?_⟩
        rcases List.mem_cons.1 hq with rfl | hq
        · exact hp
        · exact h2 q hq
      · exact .inr h
theorem single_there {e : Int} (he : isEnc e = true) (s : ByteArray) (h : encK e s = 0) : decS e (encT e s) = s ∧ (encT e s).size ≤ s.size := by
  have hg : encGood e s = true := by
    unfold encK at h
    split at h
    · assumption
    · omega
  have hlo : ∀ p ∈ pieces (nums s), badP e p = false := by
    unfold encGood encAt at hg
    rw [he] at hg
    simp only [Bool.true_and, if_true, decide_eq_true_eq] at hg
    rcases badAt_lo e 0 (pieces (nums s)) with ⟨_, h2⟩ | h2
    · exact h2
    · omega
  have hp : ∀ p ∈ pieces (nums s), 0 ≤ p.1 ∧ ∃ y, byteOf e p.1 = some y := fun p hp => by
    have := hlo p hp
    unfold badP at this
    simp only [Bool.or_eq_false_iff, decide_eq_false_iff_not, Bool.not_eq_false'] at this
    exact ⟨by omega, Option.isSome_iff_exists.1 this.2⟩
  have hok : okAll (nums s) = true := List.all_eq_true.2 fun p h => decide_eq_true (hp p h).1
  have hT : encT e s = strOfNums (outB e (pieces (nums s))) := by unfold encT; rw [if_pos hg]
  have hbs : isBs (outB e (pieces (nums s))) := fun x hx => by
    unfold outB at hx
    obtain ⟨p, hpm, rfl⟩ := List.mem_map.1 hx
    obtain ⟨_, y, hy⟩ := hp p hpm
    rw [hy]
    have := byte_back he hy
    show 0 ≤ y ∧ y < 256
    omega
  have hsc : decL e (strOfNums (outB e (pieces (nums s)))) = scalL (nums s) := by
    unfold decL scalL
    rw [nums_strOfNums _ hbs, if_pos hok]
    unfold outB
    rw [List.map_map]
    refine List.map_congr_left fun p hpm => ?_
    obtain ⟨_, y, hy⟩ := hp p hpm
    show encOf e ((byteOf e p.1).getD 0) = p.1
    rw [hy]
    exact (byte_back he hy).2.2
  constructor
  · rw [hT]
    unfold decS
    rw [if_pos he, hsc, textS_scal hok]
  · rw [hT, size_strOfNums]
    unfold outB
    rw [List.length_map, ← nums_length]
    exact pieces_len _ _
/-! any encoding -/
theorem encK_zero {e : Int} {s : ByteArray} (h : (encK e s == 0) = true) : encK e s = 0 := by simpa using h
/-- what is encoded is decoded. -/
theorem enc_there (e : Int) (h0 : 0 ≤ e) (h5 : e ≤ 5) (s : ByteArray) (h : (encQ e s).2 = true) : decP e (encQ e s).1 = (s, -1) ∧ (encQ e s).1.size ≤ 4 * s.size := by
  by_cases e0 : e = 0
  · subst e0
    have hq : encQ 0 s = if okAll (nums s) then (s, true) else (⟨#[]⟩, false) := rfl
    rw [hq] at h ⊢
    cases hok : okAll (nums s) with
    | false => rw [hok] at h; cases h
    | true =>
      rw [if_pos rfl]
      refine ⟨?_, by simp only; omega⟩
      show (strOfNums (looseN (nums s)), firstN (nums s)) = (s, -1)
      rw [loose_ok _ (nums_isBs s) hok, firstN_none _ hok, strOfNums_nums]
  · by_cases h12 : e = 1 ∨ e = 2
    · have hq : encQ e s = (encB (decide (e = 2)) s, encC s == 0) := by unfold encQ; rw [if_neg e0, if_pos h12]
      rw [hq] at h ⊢
      have hok : okAll (nums s) = true := by
        cases hok : okAll (nums s) with
        | true => rfl
        | false =>
          simp only at h
          unfold encC at h
          rw [hok] at h
          cases h
      refine ⟨?_, encB_le _ _⟩
      rw [decP_16 e _ h12, dec_encB _ hok]
      show (textS (scalL (nums s)), (-1 : Int)) = _
      rw [textS_scal hok]
    · have he : isEnc e = true := decide_eq_true (by omega)
      have hq : encQ e s = (encT e s, encK e s == 0) := by unfold encQ; rw [if_neg e0, if_neg h12]
      rw [hq] at h ⊢
      obtain ⟨g1, g2⟩ := single_there he s (encK_zero h)
      refine ⟨?_, by simp only; omega⟩
      rw [decP_one e _ he, g1]
theorem decL_scK {e : Int} (he : isEnc e = true) (s : ByteArray) : scAll (decL e s) = true := by
  have hn : ((List.range 256).all fun c => isSc (encOf e (c : Nat))) = true := by
    have hc := of_decide_eq_true he
    rcases hc with rfl | rfl | rfl <;> decide +kernel
  unfold scAll decL
  rw [List.all_eq_true]
  intro y hy
  rw [List.mem_map] at hy
  obtain ⟨x, hx, rfl⟩ := hy
  have hb := nums_isBs s x hx
  have := List.all_eq_true.1 hn x.toNat (List.mem_range.2 (by omega))
  rwa [show ((x.toNat : Nat) : Int) = x by omega] at this
/-- what is decoded is right text. -/
theorem dec_valid (e : Int) (h0 : 0 ≤ e) (h5 : e ≤ 5) (b : ByteArray) : okAll (nums (decP e b).1) = true := by
  by_cases e0 : e = 0
  · subst e0
    show okAll (nums (strOfNums (looseN (nums b)))) = true
    rw [nums_strOfNums _ (looseN_isBs _)]
    exact okAll_loose _ (nums_isBs b)
  · by_cases h12 : e = 1 ∨ e = 2
    · rw [decP_16 e b h12]
      exact (textS_ok (dW_sc _ 0 _ (nums_isBs b))).1
    · have he : isEnc e = true := decide_eq_true (by omega)
      rw [decP_one e b he]
      show okAll (nums (decS e b)) = true
      unfold decS
      rw [if_pos he]
      exact (textS_ok (decL_scK he b)).1
theorem txt_valid (kind body : ByteArray) : okAll (nums (txtP kind body).1) = true := by
  have h := (encP_range kind body).1
  exact dec_valid _ h.1 h.2 _
/-! Content-Types that are told -/
def txB : ByteArray := ⟨#[116, 101, 120, 116, 47, 120, 109, 108]⟩
theorem tx_facts : xmlK txB = true ∧ chsK txB = (⟨#[]⟩, false) := by decide +kernel
theorem raw_len (raw : ByteArray) : (txtP txB raw).2.2.length ≤ 2 := by
  have hn : noneK txB = [] := by unfold noneK; rw [tx_facts.1]; rfl
  have h1 : (encP txB raw).2.2.length ≤ 1 := by
    unfold encP
    split
    · rw [hn]; exact Nat.zero_le _
    · have := (twoK_range raw []).2
      unfold oneK
      rw [tx_facts.2, hn]
      simpa using this
  unfold txtP
  simp only [List.length_append, List.length_map]
  split
  · simp only [List.length_cons, List.length_nil]; omega
  · simp only [List.length_nil]; omega
/-- a body without a mark, in an encoding that its Content-Type tells. -/
theorem enc_named (k n : ByteArray) (e : Int) (hx : xmlK k = true) (hc : chsK k = (n, true)) (hl : labS n = (e, true)) (b : ByteArray) (hm : (mrkV (nums b)).2.2 = false) : encP k b = (e, 0, []) := by
  have hn : noneK k = [] := by unfold noneK; rw [hx]; rfl
  unfold encP
  rw [hm, if_neg (by decide), hn]
  unfold oneK
  rw [hc, if_pos rfl, hl]
  rfl
/-- a body with a mark. -/
theorem enc_marked (k p b : ByteArray) (e : Int) (hx : xmlK k = true) (hm : mrkV (nums (p ++ b)) = (e, p.size, true)) : encP k (p ++ b) = (e, p.size, []) := by
  have hn : noneK k = [] := by unfold noneK; rw [hx]; rfl
  unfold encP
  rw [hm, hn]
  rfl
theorem extract_app (p b : ByteArray) : (p ++ b).extract p.size (p ++ b).size = b := by
  rw [ByteArray.size_append]
  apply ByteArray.ext
  rw [ByteArray.data_extract, ByteArray.data_append]
  apply Array.ext'
  rw [Array.toList_extract, Array.toList_append, List.extract_eq_take_drop]
  have h1 : p.size = p.data.toList.length := by rw [Array.length_toList]; rfl
  rw [h1, List.drop_left]
  refine List.take_of_length_le ?_
  rw [Nat.add_sub_cancel_left, Array.length_toList]
  exact Nat.le_refl _
/-- the text of a body whose encoding is known. -/
theorem txt_of (k b s : ByteArray) (e : Int) (n : Nat) (hE : encP k b = (e, n, [])) (hD : decP e (b.extract n b.size) = (s, -1)) (hz : b.size ≤ 4096) : txtR k b = ((s, e, []), 0) := by
  unfold txtR
  rw [if_neg (by omega)]
  unfold txtP
  rw [hE]
  simp only [hD]
  rfl
theorem extract_zero (b : ByteArray) : b.extract 0 b.size = b := by simp
/-- no mark stands at the front. -/
theorem no_mark (b : ByteArray) (h1 : preB b ⟨#[239, 187, 191]⟩ = false) (h2 : preB b ⟨#[255, 254]⟩ = false) (h3 : preB b ⟨#[254, 255]⟩ = false) : (mrkV (nums b)).2.2 = false := by
  rw [preB_nums] at h1 h2 h3
  unfold mrkV markD
  rw [show nums (⟨#[239, 187, 191]⟩ : ByteArray) = [239, 187, 191] from rfl] at h1
  rw [show nums (⟨#[255, 254]⟩ : ByteArray) = [255, 254] from rfl] at h2
  rw [show nums (⟨#[254, 255]⟩ : ByteArray) = [254, 255] from rfl] at h3
  rw [h1, h2, h3]
  rfl
def wlB : ByteArray := ⟨#[116, 101, 120, 116, 47, 120, 109, 108, 59, 99, 104, 97, 114, 115, 101, 116, 61, 108, 97, 116, 105, 110, 49]⟩
theorem wl_xml : xmlK wlB = true := by decide +kernel
/-- the three parts of what the law asks. -/
theorem back_named (k n s : ByteArray) (e : Int) (h0 : 0 ≤ e) (h5 : e ≤ 5) (hx : xmlK k = true) (hc : chsK k = (n, true)) (hl : labS n = (e, true)) (hs : s.size ≤ 900) (hok : (encQ e s).2 = true)
    (h1 : preB (encQ e s).1 ⟨#[239, 187, 191]⟩ = false) (h2 : preB (encQ e s).1 ⟨#[255, 254]⟩ = false) (h3 : preB (encQ e s).1 ⟨#[254, 255]⟩ = false) : txtR k (encQ e s).1 = ((s, e, []), 0) := by
  obtain ⟨g1, g2⟩ := enc_there e h0 h5 s hok
  exact txt_of k _ s e 0 (enc_named k n e hx hc hl _ (no_mark _ h1 h2 h3)) (by rw [extract_zero]; exact g1) (by omega)
theorem back_marked (p s : ByteArray) (e : Int) (h0 : 0 ≤ e) (h5 : e ≤ 5) (hp : p.size ≤ 3) (hm : ∀ b, mrkV (nums (p ++ b)) = (e, p.size, true)) (hs : s.size ≤ 900) (hok : (encQ e s).2 = true) :
    txtR wlB (p ++ (encQ e s).1) = ((s, e, []), 0) := by
  obtain ⟨g1, g2⟩ := enc_there e h0 h5 s hok
  exact txt_of wlB _ s e p.size (enc_marked wlB p _ e wl_xml (hm _)) (by rw [extract_app]; exact g1) (by rw [ByteArray.size_append]; omega)
end Go.Proofs.YthahfoliblgegaaGreatDoor
