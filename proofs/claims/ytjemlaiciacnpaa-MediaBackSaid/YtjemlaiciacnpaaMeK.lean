/-
  The walks of Xml and Charset, in media and in the reference; the reference's Same.
-/
import Derived.Test.YtjemlaiciacnpaaMeI
import Derived.Lib.Strings
namespace Go.Proofs.Ytjemlaiciacnpaa
open Go.RowKit
def tXml1 (t : ByteArray) : Bool := t.toList == [97, 112, 112, 108, 105, 99, 97, 116, 105, 111, 110, 47, 120, 109, 108]
def tXml2 (t : ByteArray) : Bool := t.toList == [116, 101, 120, 116, 47, 120, 109, 108]
def tXml3 (t : ByteArray) : Bool := decide (4 ≤ t.size) && ((t.extract (t.size - 4) t.size).toList == [43, 120, 109, 108])
def xmlB (t : ByteArray) : Bool := tXml1 t || tXml2 t || tXml3 t
theorem lite_HasSuffix (s t : ByteArray) (w : World) (hs : s.size ≤ 1000000) :
    Calls Try.prog 38 #[.string s, .string t] w fun e w' => e = .returned (.bool (decide (t.size ≤ s.size) && ((s.extract (s.size - t.size) s.size).toList == t.toList))) ∧ w = w' := by
  by_cases h : t.size ≤ s.size
  · have h1 := decide_eq_true (show (t.size : Int) ≤ (s.size : Int) by omega)
    have h2 := decide_eq_true h
    have h3 : (s.size : Int) - (t.size : Int) = ((s.size - t.size : Nat) : Int) := by omega
    rw [h2]
    go_enter Try.func38, Try.ntmps38
    go_wp2
    go_ret
    exact ⟨by rw [Bool.true_and]; rfl, rfl⟩
  · have h1 := decide_eq_false (show ¬ (t.size : Int) ≤ (s.size : Int) by omega)
    have h2 := decide_eq_false h
    rw [h2]
    go_enter Try.func38, Try.ntmps38
    go_wp2
    go_ret
    exact ⟨rfl, rfl⟩
theorem strings_HasSuffix (s t : ByteArray) (w : World) (hs : s.size ≤ 1000000) :
    Calls Try.prog 28 #[.string s, .string t] w fun e w' => e = .returned (.bool (decide (t.size ≤ s.size) && ((s.extract (s.size - t.size) s.size).toList == t.toList))) ∧ w = w' := by
  have hc := lite_HasSuffix s t w hs
  obtain ⟨b, hb⟩ : ∃ b, (decide (t.size ≤ s.size) && ((s.extract (s.size - t.size) s.size).toList == t.toList)) = b := ⟨_, rfl⟩
  rw [hb] at hc ⊢
  clear hb
  go_enter Try.func28, Try.ntmps28
  go_wp2_with fail
  refine hc.mono ?_
  rintro e w' ⟨rfl, rfl⟩
  go_wp2
  go_ret
  exact ⟨rfl, rfl⟩
theorem media_Xml (t : ByteArray) (v : Value) (w : World) (hs : t.size ≤ 1000000) :
    Calls Try.prog 13 #[.agg #[.string t, v]] w fun e w' => e = .returned (.bool (xmlB t)) ∧ Below w.heap.size w w' := by
  have HX := Lib.hid (show xmlB t = (tXml1 t || tXml2 t || tXml3 t) from rfl)
  have h3 := fun w => strings_HasSuffix t ⟨#[43, 120, 109, 108]⟩ w hs
  have hq : (decide ((⟨#[43, 120, 109, 108]⟩ : ByteArray).size ≤ t.size) && ((t.extract (t.size - (⟨#[43, 120, 109, 108]⟩ : ByteArray).size) t.size).toList == (⟨#[43, 120, 109, 108]⟩ : ByteArray).toList)) = tXml3 t := by
    rw [ByteArray.toList_eq ⟨#[43, 120, 109, 108]⟩]
    rfl
  rw [hq] at h3
  clear hq
  obtain ⟨b3, hb3⟩ : ∃ b, tXml3 t = b := ⟨_, rfl⟩
  rw [hb3] at h3 HX
  clear hb3
  cases h1 : tXml1 t with
  | true =>
    rw [h1] at HX
    unfold tXml1 at h1
    have hb := (Below.refl w.heap.size w).alloc (Nat.le_refl _) (.cells #[.string t, v] 25)
    go_enter Try.func13, Try.ntmps13
    go_wp2_with fail
    go_ret
    exact ⟨by rw [HX.out]; rfl, hb⟩
  | false =>
    rw [h1] at HX
    unfold tXml1 at h1
    have hb := (Below.refl w.heap.size w).alloc (Nat.le_refl _) (.cells #[.string t, v] 25)
    cases h2 : tXml2 t with
    | true =>
      rw [h2] at HX
      unfold tXml2 at h2
      go_enter Try.func13, Try.ntmps13
      go_wp2_with fail
      go_ret
      exact ⟨by rw [HX.out]; rfl, hb⟩
    | false =>
      rw [h2] at HX
      unfold tXml2 at h2
      go_enter Try.func13, Try.ntmps13
      go_wp2_with fail
      refine (h3 _).mono ?_
      rintro e w' ⟨rfl, rfl⟩
      go_wp2
      go_ret
      exact ⟨by rw [HX.out]; rfl, hb⟩
theorem ref06_Xml (t : ByteArray) (v : Value) (w : World) (hs : t.size ≤ 1000000) :
    Calls Try.prog 14 #[.agg #[.string t, v]] w fun e w' => e = .returned (.bool (xmlB t)) ∧ Below w.heap.size w w' := by
  have HX := Lib.hid (show xmlB t = (tXml1 t || tXml2 t || tXml3 t) from rfl)
  have hb := (Below.refl w.heap.size w).alloc (Nat.le_refl _) (.cells #[.string t, v] 25)
  cases h1 : tXml1 t with
  | true =>
    rw [h1] at HX
    unfold tXml1 at h1
    go_enter Try.func14, Try.ntmps14
    go_wp2_with fail
    go_ret
    exact ⟨by rw [HX.out]; rfl, hb⟩
  | false =>
    rw [h1] at HX
    unfold tXml1 at h1
    cases h2 : tXml2 t with
    | true =>
      rw [h2] at HX
      unfold tXml2 at h2
      go_enter Try.func14, Try.ntmps14
      go_wp2_with fail
      go_ret
      exact ⟨by rw [HX.out]; rfl, hb⟩
    | false =>
      rw [h2] at HX
      unfold tXml2 at h2
      have HX3 := Lib.hid (show tXml3 t = (decide (4 ≤ t.size) && ((t.extract (t.size - 4) t.size).toList == [43, 120, 109, 108])) from rfl)
      by_cases h4 : 4 ≤ t.size
      · have h5 := decide_eq_true (show (4 : Int) ≤ (t.size : Int) by omega)
        have h6 := decide_eq_true h4
        have h7 : (t.size : Int) - 4 = ((t.size - 4 : Nat) : Int) := by omega
        rw [h6] at HX3
        go_enter Try.func14, Try.ntmps14
        go_wp2_with fail
        go_ret
        exact ⟨by rw [HX.out, HX3.out]; rfl, hb⟩
      · have h5 := decide_eq_false (show ¬ (4 : Int) ≤ (t.size : Int) by omega)
        have h6 := decide_eq_false h4
        rw [h6] at HX3
        go_enter Try.func14, Try.ntmps14
        go_wp2_with fail
        go_ret
        exact ⟨by rw [HX.out, HX3.out]; rfl, hb⟩
/-- pairs of texts, in cells. -/
def pairCells (qs : List (ByteArray × ByteArray)) : List Value := qs.flatMap fun q => [.string q.1, .string q.2]
theorem pairCells_length (qs : List (ByteArray × ByteArray)) : (pairCells qs).length = 2 * qs.length := by
  induction qs with
  | nil => rfl
  | cons q qs ih =>
    show ([Value.string q.1, .string q.2] ++ pairCells qs).length = _
    rw [List.length_append, ih, List.length_cons]
    simp
    omega
theorem pairCells_at (qs : List (ByteArray × ByteArray)) (i : Nat) (q : ByteArray × ByteArray) (h : qs[i]? = some q) : (pairCells qs)[i * 2]? = some (.string q.1) ∧ (pairCells qs)[i * 2 + 1]? = some (.string q.2) := by
  induction qs generalizing i with
  | nil => simp at h
  | cons p qs ih =>
    cases i with
    | zero =>
      simp at h
      subst h
      exact ⟨rfl, rfl⟩
    | succ i =>
      have := ih i (by simpa using h)
      show ([Value.string p.1, .string p.2] ++ pairCells qs)[(i + 1) * 2]? = _ ∧ ([Value.string p.1, .string p.2] ++ pairCells qs)[(i + 1) * 2 + 1]? = _
      rw [show (i + 1) * 2 = i * 2 + 2 by omega, show i * 2 + 2 + 1 = (i * 2 + 1) + 2 by omega]
      exact this
/-- the pair at k, read. -/
theorem CReads.pair {B : Nat} {w : World} {v : Value} {n : Nat} {qs : List (ByteArray × ByteArray)} (hr : CReads B w v n (pairCells qs)) {C : Nat} {wr : World} (hb : Below C w wr) (hBC : B ≤ C) (k : Nat) (hk : k < qs.length) :
    ∃ b off cap q1 q2, v = .slice (some ⟨b, off, none⟩) n cap ∧ qs[k]? = some (q1, q2) ∧ qs.drop k = (q1, q2) :: qs.drop (k + 1) ∧ wr.cell? ⟨b, off + k * 2, none⟩ = some (.string q1) ∧ wr.cell? ⟨b, off + k * 2 + 1, none⟩ = some (.string q2) := by
  obtain ⟨a, cap, rfl, hc⟩ := hr
  have hq := List.getElem?_eq_getElem hk
  obtain ⟨q, hqq⟩ : ∃ q, qs[k] = q := ⟨_, rfl⟩
  rw [hqq] at hq
  have hdr : qs.drop k = q :: qs.drop (k + 1) := by rw [← hqq, List.drop_eq_getElem_cons hk]
  obtain ⟨h0, h1⟩ := pairCells_at qs k q hq
  obtain ⟨b, off, rfl, hbB, hc0⟩ := hc _ _ h0
  obtain ⟨b', off', hbb, _, hc1⟩ := hc _ _ h1
  cases hbb
  exact ⟨b, off, cap, q.1, q.2, rfl, hq, hdr, (hb.cell (p := ⟨b, off + k * 2, none⟩) (by show b < _; omega)).trans hc0, (hb.cell (p := ⟨b, off + (k * 2 + 1), none⟩) (by show b < _; omega)).trans hc1⟩
def pairsOf (ps : List (List Int × List Int)) : List (ByteArray × ByteArray) := ps.map fun p => (strOfNums p.1, strOfNums p.2)
theorem parCells_pairs (ps : List (List Int × List Int)) : parCells ps = pairCells (pairsOf ps) := by
  unfold parCells pairCells pairsOf
  rw [List.flatMap_map]
/-- the charset. -/
def charB : List (ByteArray × ByteArray) → ByteArray × Bool
  | [] => (⟨#[]⟩, false)
  | q :: qs => if q.1.toList == [99, 104, 97, 114, 115, 101, 116] then (q.2, true) else charB qs
set_option maxRecDepth 100000 in
theorem media_Charset (B : Nat) (t : ByteArray) (v : Value) (qs : List (ByteArray × ByteArray)) (w : World) (hr : CReads B w v qs.length (pairCells qs)) (hB : B ≤ w.heap.size) (hn : qs.length ≤ 1000000) :
    Calls Try.prog 10 #[.agg #[.string t, v]] w fun e w' => e = .returned (.tuple #[.string (charB qs).1, .bool (charB qs).2]) ∧ Below w.heap.size w w' := by
  have hr0 := hr
  obtain ⟨a, cap, rfl, -⟩ := hr0
  obtain ⟨R, hR⟩ : ∃ R, charB qs = R := ⟨_, rfl⟩
  rw [hR]
  have HR := Lib.hid hR
  clear hR
  have hb := (Below.refl w.heap.size w).alloc (Nat.le_refl _) (.cells #[.string t, .slice a qs.length cap] 25)
  go_enter Try.func10, Try.ntmps10
  go_wp2_with fail
  go_loopw [9] (fun i wr => ∃ k : Nat, i = .int .i64 k ∧ k ≤ qs.length ∧ charB (qs.drop k) = R ∧ Below w.heap.size w wr) (fun i _ => qs.length - (intOf i).toNat)
  case atStart => exact ⟨0, rfl, by omega, by rw [List.drop_zero]; exact HR.out, hb⟩
  case round =>
    obtain ⟨k, rfl, hk, hch, hbw⟩ := hrel
    by_cases hlt : k < qs.length
    · obtain ⟨b, off, cap', q1, q2, hv, -, hdr, hw0, hw1⟩ := hr.pair hbw hB k hlt
      cases hv
      rw [hdr, charB] at hch
      have hba := hbw.alloc hbw.size (.cells #[.string q1, .string q2] 47)
      cases he : (q1.toList == [99, 104, 97, 114, 115, 101, 116]) with
      | true =>
        rw [he, if_pos rfl] at hch
        have HC := Lib.hid hch
        clear hch hdr hr
        go_wp2_with fail
        go_ret2
        exact ⟨by rw [← HC.out]; rfl, hba⟩
      | false =>
        rw [he, if_neg (by decide)] at hch
        have HC := Lib.hid hch
        clear hch hdr hr
        go_wp2_with fail
        exact ⟨⟨k + 1, by go_num, by omega, HC.out, hba⟩, by simp [intOf]; omega⟩
    · rw [List.drop_eq_nil_of_le (by omega)] at hch
      have HC := Lib.hid hch
      clear hch hr
      go_wp2_with fail
      go_ret2
      exact ⟨by rw [← HC.out]; rfl, hbw⟩
set_option maxRecDepth 100000 in
theorem ref06_Charset (B : Nat) (t : ByteArray) (v : Value) (qs : List (ByteArray × ByteArray)) (w : World) (hr : CReads B w v qs.length (pairCells qs)) (hB : B ≤ w.heap.size) (hn : qs.length ≤ 1000000) :
    Calls Try.prog 11 #[.agg #[.string t, v]] w fun e w' => e = .returned (.tuple #[.string (charB qs).1, .bool (charB qs).2]) ∧ Below w.heap.size w w' := by
  have hr0 := hr
  obtain ⟨a, cap, rfl, -⟩ := hr0
  obtain ⟨R, hR⟩ : ∃ R, charB qs = R := ⟨_, rfl⟩
  rw [hR]
  have HR := Lib.hid hR
  clear hR
  have hb := (Below.refl w.heap.size w).alloc (Nat.le_refl _) (.cells #[.string t, .slice a qs.length cap] 25)
  have hn1 := BlkAt.new w #[.string t, .slice a qs.length cap] 25
  obtain ⟨bm, hbm⟩ : ∃ bm, w.heap.size = bm := ⟨_, rfl⟩
  go_enter Try.func11, Try.ntmps11
  go_wp2_with fail
  rw [hbm] at hn1 hb
  generalize w.alloc (.cells #[.string t, .slice a qs.length cap] 25) = w1 at hn1 hb ⊢
  go_loop [4] (fun i => ∃ k : Nat, i = .int .i64 k ∧ k ≤ qs.length ∧ charB (qs.drop k) = R) (fun i => qs.length - (intOf i).toNat)
  case atStart => exact ⟨0, rfl, by omega, by rw [List.drop_zero]; exact HR.out⟩
  case round =>
    obtain ⟨k, rfl, hk, hch⟩ := hrel
    have hcc := hn1.cell 1 rfl
    by_cases hlt : k < qs.length
    · obtain ⟨b, off, cap', q1, q2, hv, -, hdr, hw0, hw1⟩ := hr.pair hb (by omega) k hlt
      cases hv
      rw [hdr, charB] at hch
      cases he : (q1.toList == [99, 104, 97, 114, 115, 101, 116]) with
      | true =>
        rw [he, if_pos rfl] at hch
        have HC := Lib.hid hch
        clear hch hdr hr
        go_wp2_with fail
        go_ret2
        exact ⟨by rw [← HC.out]; rfl, hb⟩
      | false =>
        rw [he, if_neg (by decide)] at hch
        have HC := Lib.hid hch
        clear hch hdr hr
        go_wp2_with fail
        exact ⟨⟨k + 1, by go_num, by omega, HC.out⟩, by simp [intOf]; omega⟩
    · rw [List.drop_eq_nil_of_le (by omega)] at hch
      have HC := Lib.hid hch
      clear hch hr
      go_wp2_with fail
      go_ret2
      exact ⟨by rw [← HC.out]; rfl, hb⟩
theorem toList_ne {a b : ByteArray} (h : a ≠ b) : (a.toList == b.toList) = false := by
  rw [ByteArray.toList_eq, ByteArray.toList_eq]
  by_cases e : a.data.toList = b.data.toList
  · refine absurd ?_ h
    obtain ⟨x⟩ := a
    obtain ⟨y⟩ := b
    have : x = y := by
      have := congrArg List.toArray e
      simpa using this
    rw [this]
  · simpa using e
/-- alike: the same type, the same parameters. -/
def sameB (t u : ByteArray) (qs rs : List (ByteArray × ByteArray)) : Bool := decide (t = u ∧ qs = rs)
set_option maxRecDepth 100000 in
set_option maxHeartbeats 2000000 in
theorem ref06_Same (B : Nat) (t u : ByteArray) (v x : Value) (qs rs : List (ByteArray × ByteArray)) (w : World) (hr : CReads B w v qs.length (pairCells qs)) (hr2 : CReads B w x rs.length (pairCells rs)) (hB : B ≤ w.heap.size) (hn : qs.length ≤ 1000000) (hn2 : rs.length ≤ 1000000) :
    Calls Try.prog 12 #[.agg #[.string t, v], .agg #[.string u, x]] w fun e w' => e = .returned (.bool (sameB t u qs rs)) ∧ Below w.heap.size w w' := by
  have hr0 := hr
  have hr20 := hr2
  obtain ⟨a, cap, rfl, -⟩ := hr0
  obtain ⟨a2, cap2, rfl, -⟩ := hr20
  obtain ⟨R, hR⟩ : ∃ R, sameB t u qs rs = R := ⟨_, rfl⟩
  rw [hR]
  by_cases ht : t = u
  · subst ht
    obtain ⟨n, hnq⟩ : ∃ n, qs.length = n := ⟨_, rfl⟩
    obtain ⟨m, hnr⟩ : ∃ m, rs.length = m := ⟨_, rfl⟩
    rw [hnq] at hr hn ⊢
    rw [hnr] at hr2 hn2 ⊢
    have q1 : (t.toList == t.toList) = true := by simp
    by_cases hl : n = m
    · subst hl
      have hR2 : decide (qs.drop 0 = rs.drop 0) = R := by rw [← hR]; unfold sameB; simp
      have HR := Lib.hid hR2
      have q2 : ((n : Int) == (n : Int)) = true := by simp
      have hb := ((Below.refl w.heap.size w).alloc (Nat.le_refl _) (.cells #[.string t, .slice a n cap] 25)).alloc (by simp) (.cells #[.string t, .slice a2 n cap2] 25)
      have hn1 := (BlkAt.new w #[.string t, .slice a n cap] 25).alloc (.cells #[.string t, .slice a2 n cap2] 25)
      have hn3 := BlkAt.new (w.alloc (.cells #[.string t, .slice a n cap] 25)) #[.string t, .slice a2 n cap2] 25
      rw [show (w.alloc (.cells #[.string t, .slice a n cap] 25)).heap.size = w.heap.size + 1 by simp] at hn3
      clear hR hR2
      go_enter Try.func12, Try.ntmps12
      go_wp2_with fail
      generalize (w.alloc (.cells #[.string t, .slice a n cap] 25)).alloc (.cells #[.string t, .slice a2 n cap2] 25) = w1 at hb hn1 hn3 ⊢
      go_loopw [5] (fun i wr => ∃ k : Nat, i = .int .i64 k ∧ k ≤ n ∧ decide (qs.drop k = rs.drop k) = R ∧ BlkAt wr w.heap.size #[.string t, .slice a n cap] ∧ BlkAt wr (w.heap.size + 1) #[.string t, .slice a2 n cap2] ∧ Below w.heap.size w wr) (fun i _ => n - (intOf i).toNat)
      case atStart => exact ⟨0, rfl, by omega, HR.out, hn1, hn3, hb⟩
      case round =>
        obtain ⟨k, rfl, hk, hch, hm1, hm3, hbw⟩ := hrel
        have hcc := hm1.cell 1 rfl
        have hcd := hm3.cell 1 rfl
        by_cases hlt : k < n
        · obtain ⟨b, off, cap', x1, x2, hv, -, hdr, hw0, hw1⟩ := hr.pair hbw hB k (by omega)
          cases hv
          obtain ⟨b', off', cap', y1, y2, hv2, -, hdr2, hy0, hy1⟩ := hr2.pair hbw hB k (by omega)
          cases hv2
          rw [hdr, hdr2] at hch
          by_cases he : x1 = y1 ∧ x2 = y2
          · obtain ⟨rfl, rfl⟩ := he
            have HC := Lib.hid hch
            clear hch hdr hdr2 hr hr2 hn1 hn3
            go_wp2_with fail
            go_quiet (fail)
            go_wp2_with fail
            exact ⟨⟨k + 1, by go_num, by omega, by rw [← HC.out]; simp, hm1, hm3, below_dn hbw _⟩, by simp [intOf]; omega⟩
          · have hRf : R = false := by
              rw [← hch]
              refine decide_eq_false fun e => he ?_
              injection e with e1 e2
              injection e1 with e3 e4
              exact ⟨e3, e4⟩
            subst hRf
            by_cases h1 : x1 = y1
            · subst h1
              have h2 := toList_ne (show x2 ≠ y2 from fun e => he ⟨rfl, e⟩)
              have h3 : (x1.toList == x1.toList) = true := by simp
              clear hch hdr hdr2 hr hr2 hn1 hn3 he HR
              go_wp2_with fail
              go_quiet (fail)
              go_wp2_with fail
              go_ret
              exact ⟨rfl, below_dn hbw _⟩
            · have h2 := toList_ne h1
              clear hch hdr hdr2 hr hr2 hn1 hn3 he h1 HR
              go_wp2_with fail
              go_quiet (fail)
              go_wp2_with fail
              go_ret
              exact ⟨rfl, below_dn hbw _⟩
        · rw [List.drop_eq_nil_of_le (by omega), List.drop_eq_nil_of_le (by omega)] at hch
          have HC := Lib.hid hch
          clear hch hr hr2 hn1 hn3 HR
          go_wp2_with fail
          go_ret
          exact ⟨by rw [← HC.out]; rfl, hbw⟩
    · have q2 : ((n : Int) == (m : Int)) = false := by simp; omega
      have hRf : R = false := by
        rw [← hR]
        refine decide_eq_false fun e => hl ?_
        rw [← hnq, ← hnr, e.2]
      subst hRf
      have hb := ((Below.refl w.heap.size w).alloc (Nat.le_refl _) (.cells #[.string t, .slice a n cap] 25)).alloc (by simp) (.cells #[.string t, .slice a2 m cap2] 25)
      clear hR hr hr2
      go_enter Try.func12, Try.ntmps12
      go_wp2_with fail
      go_ret
      exact ⟨rfl, hb⟩
  · have q1 := toList_ne ht
    have hRf : R = false := by
      rw [← hR]
      exact decide_eq_false fun e => ht e.1
    subst hRf
    have hb := ((Below.refl w.heap.size w).alloc (Nat.le_refl _) (.cells #[.string t, .slice a qs.length cap] 25)).alloc (by simp) (.cells #[.string u, .slice a2 rs.length cap2] 25)
    clear hR hr hr2 ht
    go_enter Try.func12, Try.ntmps12
    go_wp2_with fail
    go_ret
    exact ⟨rfl, hb⟩
end Go.Proofs.Ytjemlaiciacnpaa
