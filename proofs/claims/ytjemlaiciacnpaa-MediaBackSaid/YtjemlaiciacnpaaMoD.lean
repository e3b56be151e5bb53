/-
  Layer 6: the walk of media's Text.
-/
import Derived.Test.YtjemlaiciacnpaaMoB
import Derived.Test.YtjemlaiciacnpaaDeQ
import Derived.Test.YtjemlaiciacnpaaMx
import Derived.Test.YtjemlaiciacnpaaLib
import Derived.Deep.RegionHeld3
namespace Go.Proofs.Ytjemlaiciacnpaa
open Go.RowKit
theorem posN_no (q : Int) : ∀ l : List Int, posN q l = none → q ∉ l
  | [], _ => by simp
  | c :: t, h => by
    rw [posN] at h
    by_cases e : c = q
    · rw [if_pos e] at h; cases h
    · rw [if_neg e] at h
      have := posN_no q t (by cases ho : posN q t with | none => rfl | some i => rw [ho] at h; cases h)
      simp [this]
      exact fun x => e x.symm
theorem posN_some (q : Int) : ∀ (l : List Int) (i : Nat), posN q l = some i → l = l.take i ++ q :: l.drop (i + 1) ∧ q ∉ l.take i
  | [], i, h => by cases h
  | c :: t, i, h => by
    rw [posN] at h
    by_cases e : c = q
    · rw [if_pos e] at h
      cases h
      subst e
      simp
    · rw [if_neg e] at h
      cases ho : posN q t with
      | none => rw [ho] at h; cases h
      | some j =>
        rw [ho] at h
        cases h
        obtain ⟨h1, h2⟩ := posN_some q t j ho
        refine ⟨?_, ?_⟩
        · show c :: t = c :: (t.take j ++ q :: t.drop (j + 1))
          rw [← h1]
        · show q ∉ c :: t.take j
          simp [h2]
          exact fun x => e x.symm
/-- a text cut at its first slash. -/
theorem cut_slash (t : ByteArray) (w : World) (m : Int) (hs : t.size ≤ 1000000) (hm : MaxAt w m) :
    Calls Try.prog 29 #[.string t, .string ⟨#[47]⟩] w fun e w' => ∃ a b ok, e = .returned (.tuple #[.string a, .string b, .bool ok]) ∧ Below w.heap.size w w' ∧
      ((ok = true ∧ 47 ∉ nums a ∧ nums t = nums a ++ 47 :: nums b ∧ a.size ≤ t.size ∧ b.size ≤ t.size) ∨ (ok = false ∧ 47 ∉ nums t)) := by
  refine (Try.strings_Cut t ⟨#[47]⟩ m w (by omega) hm).mono ?_
  rintro e w' ⟨rfl, n, rfl⟩
  have hw := below_dn (Below.refl w.heap.size w) n
  have hidx := idx_one 47 t.data.toList
  have hcut := cut_pos _ _ _ hidx
  show ∃ a b ok, _
  rw [show (⟨#[47]⟩ : ByteArray).data.toList = [47] from rfl, hcut]
  have hn : numsL t.data.toList = nums t := rfl
  rw [hn]
  cases hp : posN (47 : UInt8).toNat (nums t) with
  | none => exact ⟨_, _, _, rfl, hw, .inr ⟨rfl, posN_no _ _ hp⟩⟩
  | some i =>
    obtain ⟨h1, h2⟩ := posN_some _ _ i hp
    have ha : nums (⟨(t.data.toList.take i).toArray⟩ : ByteArray) = (nums t).take i := by
      show numsL _ = _
      rw [← hn, ← numsL_take]
    have hb : nums (⟨(t.data.toList.drop (i + 1)).toArray⟩ : ByteArray) = (nums t).drop (i + 1) := by
      show numsL _ = _
      rw [← hn, ← numsL_drop]
    refine ⟨_, _, _, rfl, hw, .inl ⟨rfl, ?_, ?_, ?_, ?_⟩⟩
    · show 47 ∉ nums (⟨(t.data.toList.take i).toArray⟩ : ByteArray)
      rw [ha]; exact h2
    · show nums t = nums (⟨(t.data.toList.take i).toArray⟩ : ByteArray) ++ 47 :: nums (⟨(t.data.toList.drop (i + 1)).toArray⟩ : ByteArray)
      rw [ha, hb]; exact h1
    · show (t.data.toList.take i).toArray.size ≤ t.data.size
      simp
      omega
    · show (t.data.toList.drop (i + 1)).toArray.size ≤ t.data.size
      simp
/-- what Text comes to. -/
def TxtR (R : Option (List Int)) (e : Ending) : Prop := e = .returned (.tuple #[.string (strOfNums (R.getD [])), .int .i64 (if R.isSome then 0 else 2)])
/-- what lasts within Text: the boxed argument. -/
structure TxI (w : World) (bm : Nat) (cs : Array Value) (m : Int) (u : World) : Prop where
  blk : BlkAt u bm cs
  bl : Below w.heap.size w u
  sz : bm < u.heap.size
  mx : MaxAt u m
theorem TxI.below {w u u' : World} {bm : Nat} {cs : Array Value} {m : Int} (h : TxI w bm cs m u) (hb : Below u.heap.size u u') : TxI w bm cs m u' :=
  ⟨h.blk.below hb h.sz, bt h.bl hb, Nat.lt_of_lt_of_le h.sz hb.size, h.mx.below hb⟩
theorem TxI.drew {w u : World} {bm : Nat} {cs : Array Value} {m : Int} (h : TxI w bm cs m u) : TxI w bm cs m u.drew := h.below (Below.refl _ u).drew
/-- what lasts within a round: the parameter's block too. -/
structure TxP (w : World) (bm : Nat) (cs : Array Value) (m : Int) (p : Nat) (q1 q2 : ByteArray) (u : World) : Prop where
  t : TxI w bm cs m u
  par : BlkAt u p #[.string q1, .string q2]
theorem TxP.below {w u u' : World} {bm : Nat} {cs : Array Value} {m : Int} {p : Nat} {q1 q2 : ByteArray} (h : TxP w bm cs m p q1 q2 u) (hb : Below u.heap.size u u') : TxP w bm cs m p q1 q2 u' := ⟨h.t.below hb, h.par.below hb h.par.lt⟩
theorem TxP.drew {w u : World} {bm : Nat} {cs : Array Value} {m : Int} {p : Nat} {q1 q2 : ByteArray} (h : TxP w bm cs m p q1 q2 u) : TxP w bm cs m p q1 q2 u.drew := h.below (Below.refl _ u).drew
theorem TxI.par {w u : World} {bm : Nat} {cs : Array Value} {m : Int} (h : TxI w bm cs m u) (q1 q2 : ByteArray) : TxP w bm cs m u.heap.size q1 q2 (u.alloc (.cells #[.string q1, .string q2] 47)) :=
  ⟨h.below ((Below.refl _ u).alloc (Nat.le_refl _) _), BlkAt.new u _ _⟩
set_option maxRecDepth 100000 in
set_option maxHeartbeats 8000000 in
theorem media_Text_no (B : Nat) (t : ByteArray) (v : Value) (qs : List (ByteArray × ByteArray)) (w : World) (m : Int) (hm : MaxAt w m) (hr : CReads B w v qs.length (pairCells qs)) (ht : t.size ≤ 1000000) (hT : typB (nums t) = false) :
    Calls Try.prog 18 #[.agg #[.string t, v]] w fun e w' => TxtR (txtN (nums t) (numsP qs)) e ∧ Below w.heap.size w w' := by
  have HNO := Lib.hid hT
  clear hT
  have hr0 := hr
  obtain ⟨a, cap, rfl, -⟩ := hr0
  obtain ⟨N, hN⟩ : ∃ N, qs.length = N := ⟨_, rfl⟩
  rw [hN] at hr ⊢
  have T0 : TxI w w.heap.size #[.string t, .slice a N cap] m (w.alloc (.cells #[.string t, .slice a N cap] 25)) :=
    ⟨BlkAt.new w _ _, (Below.refl w.heap.size w).alloc (Nat.le_refl _) _, by simp, hm.below ((Below.refl w.heap.size w).alloc (Nat.le_refl _) _)⟩
  have HLO := Lib.hid (fun u => media_Lower t u (by omega))
  obtain ⟨R, hR⟩ : ∃ R, txtN (nums t) (numsP qs) = R := ⟨_, rfl⟩
  rw [hR]
  obtain ⟨X, hX⟩ : ∃ X, strOfNums (lowL (nums t)) = X := ⟨_, rfl⟩
  rw [hX] at HLO
  have hlo : lowL (nums t) = nums t ↔ X = t := by
    rw [← hX]
    constructor
    · intro h; rw [h, strOfNums_nums]
    · intro h
      have := congrArg nums h
      rwa [nums_strOfNums _ (isBs_lowM (nums_isBs t))] at this
  clear hX
  have HR := Lib.hid hR
  have HLO2 := Lib.hid hlo
  clear hlo hR
  go_enter Try.func18, Try.ntmps18
  have hc0 := T0.blk.cell 0 rfl
  go_wp2_with fail
  obtain ⟨bm, hbm⟩ : ∃ bm, w.heap.size = bm := ⟨_, rfl⟩
  have HBM := Lib.hid hbm
  rw [hbm] at T0 hc0 ⊢
  clear hbm
  generalize w.alloc (.cells #[.string t, .slice a N cap] 25) = w1 at T0 hc0 ⊢
  refine (cut_slash t w1 m ht T0.mx).mono ?_
  rintro e w2 ⟨ca, cb, ok, rfl, hb2, hcut⟩
  replace T0 := T0.below hb2
  clear hb2
  replace hc0 := T0.blk.cell 0 rfl
  rcases hcut with ⟨rfl, h47, htt, hca, hcb⟩ | ⟨rfl, h47⟩
  · have HT := Lib.hid (fun (x : ByteArray) (h : x.size ≤ 1000000) u => media_token x u h)
    have hca2 : ca.size ≤ 1000000 := by omega
    have hcb2 : cb.size ≤ 1000000 := by omega
    have htyp : typB (nums t) = (tokB (nums ca) && (tokB (nums cb) && decide (X = t))) := by
      rw [htt, typB_cut _ _ h47, ← htt]
      congr 2
      exact decide_eq_decide.2 HLO2.out
    clear htt h47
    obtain ⟨k1, hk1⟩ : ∃ k, tokB (nums ca) = k := ⟨_, rfl⟩
    obtain ⟨k2, hk2⟩ : ∃ k, tokB (nums cb) = k := ⟨_, rfl⟩
    rw [hk1, hk2] at htyp
    have HK1 := Lib.hid hk1
    have HK2 := Lib.hid hk2
    clear hk1 hk2
    have HTY := Lib.hid htyp
    clear htyp
    cases k1 with
    | false =>
      have hRn : R = none := by rw [← HR.out]; unfold txtN; rw [HTY.out]; rfl
      subst hRn
      replace T0 := T0.drew
      replace hc0 := T0.blk.cell 0 rfl
      go_wp2_with fail
      first | go_region_with (first
        | (go_at_call 30; refine (HT.out _ (by first | exact hca2 | exact hcb2) _).mono ?_; (first | rw [HK1.out] | rw [HK2.out]); rintro e w7 ⟨rfl, hb⟩; have T0 := T0.below hb; have hc0 := T0.blk.cell 0 rfl)
        | (go_at_call 15; refine (HLO.out _).mono ?_; rintro e w7 ⟨rfl, hb⟩; have T0 := T0.below hb; have hc0 := T0.blk.cell 0 rfl)) | fail
      all_goals
        go_wp2_with fail
        go_ret2
        exact ⟨rfl, T0.bl⟩
    | true =>
      cases k2 with
      | false =>
        have hRn : R = none := by rw [← HR.out]; unfold txtN; rw [HTY.out]; rfl
        subst hRn
        replace T0 := T0.drew
        replace hc0 := T0.blk.cell 0 rfl
        go_wp2_with fail
        first | go_region_with (first
        | (go_at_call 30; refine (HT.out _ (by first | exact hca2 | exact hcb2) _).mono ?_; (first | rw [HK1.out] | rw [HK2.out]); rintro e w7 ⟨rfl, hb⟩; have T0 := T0.below hb; have hc0 := T0.blk.cell 0 rfl)
        | (go_at_call 15; refine (HLO.out _).mono ?_; rintro e w7 ⟨rfl, hb⟩; have T0 := T0.below hb; have hc0 := T0.blk.cell 0 rfl)) | fail
        all_goals
          go_wp2_with fail
          go_ret2
          exact ⟨rfl, T0.bl⟩
      | true =>
        by_cases hx : X = t
        · have e2 : (X.toList == t.toList) = true := by rw [hx]; simp
          rw [decide_eq_true hx] at HTY
          exact absurd (HNO.out.symm.trans HTY.out) (by decide)
        · have e2 := toList_ne hx
          rw [decide_eq_false hx] at HTY
          clear hx
          have hRn : R = none := by rw [← HR.out]; unfold txtN; rw [HTY.out]; rfl
          subst hRn
          replace T0 := T0.drew
          replace hc0 := T0.blk.cell 0 rfl
          go_wp2_with fail
          go_region_held3 (fun w' => w'.cell? ⟨bm, 0, none⟩ = some (.string t)) (first | go_keep | exact hc0) (first
        | (go_at_call 30; refine (HT.out _ (by first | exact hca2 | exact hcb2) _).mono ?_; (first | rw [HK1.out] | rw [HK2.out]); rintro e w7 ⟨rfl, hb⟩; have T0 := T0.below hb; have hc0 := T0.blk.cell 0 rfl)
        | (go_at_call 15; refine (HLO.out _).mono ?_; rintro e w7 ⟨rfl, hb⟩; have T0 := T0.below hb; have hc0 := T0.blk.cell 0 rfl))
          all_goals
            go_wp2_with fail
            go_ret2
            exact ⟨rfl, T0.bl⟩
  · have hRn : R = none := by rw [← HR.out]; unfold txtN; rw [typB_none _ h47]; rfl
    subst hRn
    clear h47
    replace T0 := T0.drew
    replace hc0 := T0.blk.cell 0 rfl
    go_wp2_with fail
    first | go_region_with (fail) | fail
    all_goals
      go_wp2_with fail
      go_ret2
      exact ⟨rfl, T0.bl⟩
end Go.Proofs.Ytjemlaiciacnpaa
