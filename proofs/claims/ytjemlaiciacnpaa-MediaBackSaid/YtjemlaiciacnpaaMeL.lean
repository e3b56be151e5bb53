/-
  What the reader of Content-Types comes to, in size; wakes; MediaReads.
-/
import Derived.Test.YtjemlaiciacnpaaMeJ
import Derived.Test.YtjemlaiciacnpaaMeK
import Derived.Deep.RegionHeld3
namespace Go.Proofs.Ytjemlaiciacnpaa
open Go.RowKit
theorem parA_len : ∀ (f : Nat) (acc : List (List Int × List Int)) (l : List Int) (ps : List (List Int × List Int)), parA f acc l = some ps → ps.length ≤ acc.length + l.length
  | 0, _, _, _, h => by cases h
  | f + 1, acc, [], ps, h => by cases h; simp
  | f + 1, acc, c :: r, ps, h => by
    have hd := dropWhile_len isBl r
    unfold parA at h
    split at h
    · cases h
    · split at h
      · cases h; simp
      · rename_i d q hq
        rw [hq] at hd
        simp only [List.length_cons] at hd ⊢
        split at h
        · have := parA_len f acc (d :: q) ps h
          simp only [List.length_cons] at this
          omega
        · split at h
          · cases h
          · rename_i p u hp
            have h1 := parN_len hp
            have h2 := dropWhile_len isBl u
            have h3 := parA_len f _ _ ps h
            simp only [List.length_append, List.length_cons, List.length_nil] at h1 h3
            omega
theorem parseN_len {l : List Int} {t : List Int} {ps : List (List Int × List Int)} (h : parseN l = some (t, ps)) : t.length ≤ l.length ∧ ps.length ≤ l.length := by
  by_cases c1 : (l.dropWhile isBl).takeWhile isTok = []
  · rw [parseN_no1 c1] at h; cases h
  · cases c2 : (l.dropWhile isBl).dropWhile isTok with
    | nil => rw [parseN_no2 c2] at h; cases h
    | cons c r =>
      by_cases c3 : c = 47
      · subst c3
        by_cases c4 : r.takeWhile isTok = []
        · rw [parseN_no4 c2 c4] at h; cases h
        · rw [parseN_eq c1 c2 c4] at h
          cases hp : parW [] ((r.dropWhile isTok).dropWhile isBl) with
          | none => rw [hp] at h; cases h
          | some qs =>
            rw [hp] at h
            simp only [Option.map_some, Option.some.injEq, Prod.mk.injEq] at h
            obtain ⟨rfl, rfl⟩ := h
            have h1 := dropWhile_len isBl l
            have h2 := congrArg List.length (List.takeWhile_append_dropWhile (p := isTok) (l := l.dropWhile isBl))
            have h3 := congrArg List.length (List.takeWhile_append_dropWhile (p := isTok) (l := r))
            have h4 := dropWhile_len isBl (r.dropWhile isTok)
            have h5 := parA_len _ _ _ _ hp
            rw [c2, List.length_append, List.length_cons] at h2
            rw [List.length_append] at h3
            simp only [List.length_nil] at h5
            constructor
            · unfold lowL
              rw [List.length_map, List.length_append, List.length_cons]
              omega
            · omega
      · rw [parseN_no3 c2 c3] at h; cases h
theorem medR_len (l : List Int) : (medR (parseN l)).1.length ≤ l.length ∧ (medR (parseN l)).2.length ≤ l.length := by
  cases h : parseN l with
  | none => simp [medR]
  | some x =>
    obtain ⟨t, ps⟩ := x
    exact parseN_len h
theorem pairsOf_length (ps : List (List Int × List Int)) : (pairsOf ps).length = ps.length := by unfold pairsOf; rw [List.length_map]
/-- MOut, in texts. -/
theorem MOut.out {w w' : World} {R : Option (List Int × List (List Int × List Int))} {e : Ending} (h : MOut w w' R e) :
    ∃ v, e = .returned (.tuple #[.agg #[.string (strOfNums (medR R).1), v], .int .i64 (if R.isSome then 0 else 70)]) ∧ Below w.heap.size w w' ∧ CReads w'.heap.size w' v (pairsOf (medR R).2).length (pairCells (pairsOf (medR R).2)) := by
  obtain ⟨v, h1, h2, h3⟩ := h
  rw [parCells_pairs] at h3
  rw [pairsOf_length]
  exact ⟨v, h1, h2, h3⟩
def wakeB : ByteArray := ⟨#[116, 101, 120, 116, 47, 88, 77, 76, 59, 32, 99, 104, 97, 114, 115, 101, 116, 61, 34, 117, 116, 102, 45, 56, 34]⟩
theorem wake_parse : parseN (nums wakeB) = some ([116, 101, 120, 116, 47, 120, 109, 108], [([99, 104, 97, 114, 115, 101, 116], [117, 116, 102, 45, 56])]) := by decide +kernel
set_option maxRecDepth 100000 in
theorem law06_wakes (w : World) : Calls Try.prog 7 #[] w fun e w' => e = .returned (.bool true) ∧ Below w.heap.size w w' := by
  have HP : ∀ w, Calls Try.prog 8 #[.string ⟨#[116, 101, 120, 116, 47, 88, 77, 76, 59, 32, 99, 104, 97, 114, 115, 101, 116, 61, 34, 117, 116, 102, 45, 56, 34]⟩] w fun e w' => ∃ v, e = .returned (.tuple #[.agg #[.string ⟨#[116, 101, 120, 116, 47, 120, 109, 108]⟩, v], .int .i64 0]) ∧ Below w.heap.size w w' ∧ CReads w'.heap.size w' v 1 (pairCells [(⟨#[99, 104, 97, 114, 115, 101, 116]⟩, ⟨#[117, 116, 102, 45, 56]⟩)]) := by
    intro w
    refine (media_Parse wakeB w (by decide)).mono ?_
    rintro e w' h
    rw [wake_parse] at h
    obtain ⟨v, h1, h2, h3⟩ := h.out
    exact ⟨v, h1, h2, h3⟩
  have hch : charB [((⟨#[99, 104, 97, 114, 115, 101, 116]⟩ : ByteArray), (⟨#[117, 116, 102, 45, 56]⟩ : ByteArray))] = (⟨#[117, 116, 102, 45, 56]⟩, true) := by simp [charB]
  have hxm : xmlB ⟨#[116, 101, 120, 116, 47, 120, 109, 108]⟩ = true := by simp [xmlB, tXml2]
  go_enter Try.func7, Try.ntmps7
  go_wp2_with fail
  refine (HP _).mono ?_
  rintro e w1 ⟨v, rfl, hb1, hr⟩
  have hr0 := hr
  obtain ⟨a, cap, rfl, -⟩ := hr0
  obtain ⟨bm, hbm⟩ : ∃ bm, w1.heap.size = bm := ⟨_, rfl⟩
  have hn1 := BlkAt.new w1 #[.string ⟨#[116, 101, 120, 116, 47, 120, 109, 108]⟩, .slice a 1 cap] 25
  have hb2 := hb1.alloc hb1.size (.cells #[.string ⟨#[116, 101, 120, 116, 47, 120, 109, 108]⟩, .slice a 1 cap] 25)
  have hr2 := hr.below ((Below.refl _ w1).alloc (Nat.le_refl _) (.cells #[.string ⟨#[116, 101, 120, 116, 47, 120, 109, 108]⟩, .slice a 1 cap] 25)) (Nat.le_refl _)
  have hsz : w1.heap.size ≤ (w1.alloc (.cells #[.string ⟨#[116, 101, 120, 116, 47, 120, 109, 108]⟩, .slice a 1 cap] 25)).heap.size := by simp
  rw [hbm] at hn1 hr2 hsz
  clear hr hb1 HP
  go_wp2_with fail
  generalize w1.alloc (.cells #[.string ⟨#[116, 101, 120, 116, 47, 120, 109, 108]⟩, .slice a 1 cap] 25) = w2 at hn1 hb2 hr2 hsz ⊢
  refine (media_Charset bm _ _ [(⟨#[99, 104, 97, 114, 115, 101, 116]⟩, ⟨#[117, 116, 102, 45, 56]⟩)] _ hr2 hsz (by decide)).mono ?_
  rw [hch]
  rintro e w3 ⟨rfl, hb3⟩
  have hn3 := hn1.below hb3 hn1.lt
  have hc0 := hn3.cell 0 rfl
  have hc1 := hn3.cell 1 rfl
  clear hr2 hn1 hbm
  go_wp2_with fail
  refine (media_Xml _ _ _ (by decide)).mono ?_
  rw [hxm]
  rintro e w4 ⟨rfl, hb4⟩
  go_wp2_with fail
  go_ret
  exact ⟨rfl, (hb2.trans (hb3.mono hb2.size)).trans (hb4.mono (hb2.trans (hb3.mono hb2.size)).size)⟩
/-- two that were read, in the blocks p and q. -/
structure Two (w wr : World) (B p q : Nat) (t u : ByteArray) (va vb : Value) (qs rs : List (ByteArray × ByteArray)) : Prop where
  a : BlkAt wr p #[.string t, va]
  b : BlkAt wr q #[.string u, vb]
  ra : CReads B wr va qs.length (pairCells qs)
  rb : CReads B wr vb rs.length (pairCells rs)
  bl : Below w.heap.size w wr
  sz : B ≤ wr.heap.size
theorem Two.below {w wr wx : World} {B p q : Nat} {t u : ByteArray} {va vb : Value} {qs rs : List (ByteArray × ByteArray)} (h : Two w wr B p q t u va vb qs rs) (hb : Below wr.heap.size wr wx) : Two w wx B p q t u va vb qs rs :=
  ⟨h.a.below hb h.a.lt, h.b.below hb h.b.lt, h.ra.below hb h.sz, h.rb.below hb h.sz, h.bl.trans (hb.mono h.bl.size), Nat.le_trans h.sz hb.size⟩
theorem Two.drew {w wr : World} {B p q : Nat} {t u : ByteArray} {va vb : Value} {qs rs : List (ByteArray × ByteArray)} (h : Two w wr B p q t u va vb qs rs) : Two w wr.drew B p q t u va vb qs rs :=
  h.below ⟨rfl, rfl, rfl, Nat.le_refl _, fun _ _ => rfl⟩
set_option maxRecDepth 100000 in
set_option maxHeartbeats 4000000 in
theorem law_MediaReads (s : ByteArray) (w : World) (hs : s.size ≤ 140737488351232) : Calls Try.prog 3 #[.string s] w fun e w' => e = .returned (.bool true) ∧ Below w.heap.size w w' := by
  by_cases h3 : 3000 < s.size
  · have hd := decide_eq_true (show (3000 : Int) < (s.size : Int) by omega)
    go_enter Try.func3, Try.ntmps3
    go_wp2_with fail
    refine (law06_wakes _).mono ?_
    rintro e w1 ⟨rfl, hb⟩
    go_wp2_with fail
    go_ret
    exact ⟨rfl, hb⟩
  · have hd := decide_eq_false (show ¬ (3000 : Int) < (s.size : Int) by omega)
    have hl := medR_len (nums s)
    rw [nums_length] at hl
    obtain ⟨R, hR⟩ : ∃ R, parseN (nums s) = R := ⟨_, rfl⟩
    have HM := media_Parse s
    have HF := ref06_Parse s
    rw [hR] at hl HM HF
    clear hR
    obtain ⟨n, hn⟩ : ∃ n : Int, (if R.isSome then (0 : Int) else 70) = n := ⟨_, rfl⟩
    obtain ⟨t, ht⟩ : ∃ t, strOfNums (medR R).1 = t := ⟨_, rfl⟩
    have hts : t.size ≤ 1000000 := by rw [← ht, size_strOfNums]; omega
    obtain ⟨qs, hq⟩ : ∃ qs, pairsOf (medR R).2 = qs := ⟨_, rfl⟩
    have hqs : qs.length ≤ 1000000 := by rw [← hq, pairsOf_length]; omega
    have HM : ∀ w, Calls Try.prog 8 #[.string s] w fun e w' => ∃ v, e = .returned (.tuple #[.agg #[.string t, v], .int .i64 n]) ∧ Below w.heap.size w w' ∧ CReads w'.heap.size w' v qs.length (pairCells qs) := by
      intro w
      refine (HM w (by omega)).mono ?_
      rintro e w' h
      have := h.out
      rw [hn, ht, hq] at this
      exact this
    have HF : ∀ w, Calls Try.prog 9 #[.string s] w fun e w' => ∃ v, e = .returned (.tuple #[.agg #[.string t, v], .int .i64 n]) ∧ Below w.heap.size w w' ∧ CReads w'.heap.size w' v qs.length (pairCells qs) := by
      intro w
      refine (HF w (by omega)).mono ?_
      rintro e w' h
      have := h.out
      rw [hn, ht, hq] at this
      exact this
    have HLA := fun w => media_Lower s w (by omega)
    have HLB := fun w => ref06_Lower s w (by omega)
    obtain ⟨lo, hlo⟩ : ∃ lo, strOfNums (lowL (nums s)) = lo := ⟨_, rfl⟩
    simp only [hlo] at HLA HLB
    obtain ⟨ch, hch⟩ : ∃ ch, charB qs = ch := ⟨_, rfl⟩
    obtain ⟨cs, cok⟩ := ch
    obtain ⟨xm, hxm⟩ : ∃ xm, xmlB t = xm := ⟨_, rfl⟩
    have hsm : sameB t t qs qs = true := by unfold sameB; simp
    clear hlo hl hn ht hq hd
    have hd := decide_eq_false (show ¬ (3000 : Int) < (s.size : Int) by omega)
    clear h3
    go_enter Try.func3, Try.ntmps3
    go_wp2_with fail
    refine (HM _).mono ?_
    rintro e w1 ⟨va, rfl, hb1, hr1⟩
    have hr0 := hr1
    obtain ⟨aa, ac, rfl, -⟩ := hr0
    have hn1 := BlkAt.new w1 #[.string t, .slice aa qs.length ac] 25
    have hb2 := hb1.alloc hb1.size (.cells #[.string t, .slice aa qs.length ac] 25)
    have hr2 := hr1.below ((Below.refl _ w1).alloc (Nat.le_refl _) (.cells #[.string t, .slice aa qs.length ac] 25)) (Nat.le_refl _)
    have hsz2 : w1.heap.size ≤ (w1.alloc (.cells #[.string t, .slice aa qs.length ac] 25)).heap.size := by simp
    obtain ⟨p, hp⟩ : ∃ p, w1.heap.size = p := ⟨_, rfl⟩
    rw [hp] at hn1 hr2 hsz2
    go_wp2_with fail
    clear hr1 hb1 hp HM
    generalize w1.alloc (.cells #[.string t, .slice aa qs.length ac] 25) = w2 at hn1 hb2 hr2 hsz2 ⊢
    refine (HF _).mono ?_
    rintro e w3 ⟨vb, rfl, hb3, hr3⟩
    have hr0 := hr3
    obtain ⟨ba, bc, rfl, -⟩ := hr0
    have hb13 := hb2.trans (hb3.mono hb2.size)
    have q0 : Two w w3 w3.heap.size p w3.heap.size t t (.slice aa qs.length ac) (.slice ba qs.length bc) qs qs → True := fun _ => trivial
    have hn4 := (hn1.below hb3 hn1.lt).alloc (.cells #[.string t, .slice ba qs.length bc] 25)
    have hn5 := BlkAt.new w3 #[.string t, .slice ba qs.length bc] 25
    have hra := (hr2.below hb3 hsz2).below ((Below.refl _ w3).alloc (Nat.le_refl _) (.cells #[.string t, .slice ba qs.length bc] 25)) (Nat.le_trans hsz2 hb3.size)
    have hrb := hr3.below ((Below.refl _ w3).alloc (Nat.le_refl _) (.cells #[.string t, .slice ba qs.length bc] 25)) (Nat.le_refl _)
    have hb4 := hb13.alloc hb13.size (.cells #[.string t, .slice ba qs.length bc] 25)
    have hsz4 : w3.heap.size ≤ (w3.alloc (.cells #[.string t, .slice ba qs.length bc] 25)).heap.size := by simp
    obtain ⟨q, hq⟩ : ∃ q, w3.heap.size = q := ⟨_, rfl⟩
    have hpq : p ≤ q := by rw [← hq]; exact Nat.le_trans hsz2 hb3.size
    rw [hq] at hn5 hrb hsz4
    have T0 : Two w (w3.alloc (.cells #[.string t, .slice ba qs.length bc] 25)) q p q t t (.slice aa qs.length ac) (.slice ba qs.length bc) qs qs := ⟨hn4, hn5, hra.mono hpq, hrb, hb4, hsz4⟩
    clear hn4 hn5 hra hrb hb4 hsz4 hb13 hr3 hb3 hn1 hr2 hsz2 hb2 HF q0 hpq
    have hc0 := T0.a.cell 0 rfl
    have hc1 := T0.a.cell 1 rfl
    go_wp2_with fail
    clear hc0 hc1 hq
    generalize w3.alloc (.cells #[.string t, .slice ba qs.length bc] 25) = w4 at T0 ⊢
    refine (media_Charset q _ _ qs _ T0.ra T0.sz hqs).mono ?_
    rw [hch]
    rintro e w5 ⟨rfl, hb5⟩
    have T1 := T0.below hb5
    clear T0 hb5
    have hc0 := T1.b.cell 0 rfl
    have hc1 := T1.b.cell 1 rfl
    go_wp2_with fail
    clear hc0 hc1
    refine (ref06_Charset q _ _ qs _ T1.rb T1.sz hqs).mono ?_
    rw [hch]
    rintro e w6 ⟨rfl, hb6⟩
    have T2 := (T1.below hb6).drew
    clear T1 hb6
    have hc0 := T2.a.cell 0 rfl
    have hc1 := T2.a.cell 1 rfl
    have hc2 := T2.b.cell 0 rfl
    have hc3 := T2.b.cell 1 rfl
    have e1 : (n == n) = true := by simp
    have e2 : (cs.toList == cs.toList) = true := by simp
    have e3 : (cok == cok) = true := by simp
    have e4 : (xm == xm) = true := by simp
    have e5 : (lo.toList == lo.toList) = true := by simp
    have T := T2
    go_wp2_with fail
    go_region_held3 (fun w' => w'.cell? ⟨p, 0, none⟩ = some (.string t) ∧ w'.cell? ⟨p, 1, none⟩ = some (.slice aa qs.length ac) ∧ w'.cell? ⟨q, 0, none⟩ = some (.string t) ∧ w'.cell? ⟨q, 1, none⟩ = some (.slice ba qs.length bc)) (first | go_keep | exact ⟨hc0, hc1, hc2, hc3⟩) (first
      | (go_at_call 12; refine (ref06_Same q _ _ _ _ qs qs _ T.ra T.rb T.sz hqs hqs).mono ?_; rw [hsm]; rintro e w7 ⟨rfl, hb⟩; have T := T.below hb; have hc0 := T.a.cell 0 rfl; have hc1 := T.a.cell 1 rfl; have hc2 := T.b.cell 0 rfl; have hc3 := T.b.cell 1 rfl)
      | (go_at_call 13; refine (media_Xml _ _ _ hts).mono ?_; rw [hxm]; rintro e w7 ⟨rfl, hb⟩; have T := T.below hb; have hc0 := T.a.cell 0 rfl; have hc1 := T.a.cell 1 rfl; have hc2 := T.b.cell 0 rfl; have hc3 := T.b.cell 1 rfl)
      | (go_at_call 14; refine (ref06_Xml _ _ _ hts).mono ?_; rw [hxm]; rintro e w7 ⟨rfl, hb⟩; have T := T.below hb; have hc0 := T.a.cell 0 rfl; have hc1 := T.a.cell 1 rfl; have hc2 := T.b.cell 0 rfl; have hc3 := T.b.cell 1 rfl)
      | (go_at_call 15; refine (HLA _).mono ?_; rintro e w7 ⟨rfl, hb⟩; have T := T.below hb; have hc0 := T.a.cell 0 rfl; have hc1 := T.a.cell 1 rfl; have hc2 := T.b.cell 0 rfl; have hc3 := T.b.cell 1 rfl)
      | (go_at_call 16; refine (HLB _).mono ?_; rintro e w7 ⟨rfl, hb⟩; have T := T.below hb; have hc0 := T.a.cell 0 rfl; have hc1 := T.a.cell 1 rfl; have hc2 := T.b.cell 0 rfl; have hc3 := T.b.cell 1 rfl)
      | (go_at_call 7; refine (law06_wakes _).mono ?_; rintro e w7 ⟨rfl, hb⟩; have T := T.below hb; have hc0 := T.a.cell 0 rfl; have hc1 := T.a.cell 1 rfl; have hc2 := T.b.cell 0 rfl; have hc3 := T.b.cell 1 rfl))
    go_wp2_with fail
    go_ret
    exact ⟨rfl, T.bl⟩
end Go.Proofs.Ytjemlaiciacnpaa
