/-
  The walks of scalar, ends, Html; the reference's end, Html.
-/
import Derived.Test.YtkdkoondchbekaaRfB
import Derived.Test.YtkdkoondchbekaaU8F
import Derived.Test.YtkdkoondchbekaaU8D
import Derived.Lib.ItoaWalk
namespace Go.Proofs.Ytkdkoondchbekaa
open Go.RowKit
set_option maxHeartbeats 1000000 in
theorem refs_scalar (s : ByteArray) (w : World) (hs : s.size ≤ 1099511627776) :
    Calls Try.prog 26 #[.string s] w fun e w' => e = .returned (.tuple #[.int .i64 (scaN (nums s)).1, .bool (scaN (nums s)).2]) ∧ Below w.heap.size w w' := by
  obtain ⟨a, ha⟩ : ∃ a, (numN (nums s)).1 = a := ⟨_, rfl⟩
  obtain ⟨b, hb⟩ : ∃ a, (numN (nums s)).2.1 = a := ⟨_, rfl⟩
  have hN : ∀ w, Calls Try.prog 21 #[.string s] w fun e w' => e = .returned (.tuple #[.int .i64 a, .bool b, .bool (numN (nums s)).2.2]) ∧ Below w.heap.size w w' := by
    intro w
    have := refs_Number s w hs
    unfold numV at this
    rw [ha, hb] at this
    exact this
  cases ho : (numN (nums s)).2.2 with
  | true =>
    have HS := Lib.hid (show scaN (nums s) = (a, true) by unfold scaN; rw [if_pos ho, ha])
    rw [ho] at hN
    have HN := Lib.hid hN
    clear hN ho ha hb
    go_enter Try.func26, Try.ntmps26
    go_wp2_with fail
    refine (HN.out _).mono ?_
    rintro e w1 ⟨rfl, hb1⟩
    go_wp2
    go_ret2
    exact ⟨by rw [HS.out]; try rfl, hb1⟩
  | false =>
    have HS := Lib.hid (show scaN (nums s) = namN (nums s) by unfold scaN; rw [ho]; rfl)
    rw [ho] at hN
    have HN := Lib.hid hN
    clear hN ho ha hb
    go_enter Try.func26, Try.ntmps26
    go_wp2_with fail
    refine (HN.out _).mono ?_
    rintro e w1 ⟨rfl, hb1⟩
    go_wp2_with fail
    refine (refs_Named s _).mono ?_
    rintro e w2 ⟨rfl, rfl⟩
    go_wp2
    go_ret2
    exact ⟨by rw [HS.out]; try rfl, hb1⟩
/-- where the semicolon stands; -1: nowhere. -/
def endI (l : List Int) : Int := match endN l with
  | none => -1
  | some n => n
/-- the same, of a rest that begins k places behind. -/
def endK (k : Nat) (l : List Int) : Int := match endN l with
  | none => -1
  | some n => (n : Int) + k
theorem endK_zero (l : List Int) : endK 0 l = endI l := by unfold endK endI; cases endN l <;> simp
theorem endK_nil (k : Nat) : endK k [] = -1 := rfl
theorem endK_59 (k : Nat) (t : List Int) : endK k (59 :: t) = k := by unfold endK; simp [endN]
theorem endK_bad {c : Int} (k : Nat) (t : List Int) (h0 : c ≠ 59) (h : c = 38 ∨ c = 60) : endK k (c :: t) = -1 := by unfold endK; rw [endN, if_neg h0, if_pos h]
theorem endK_go {c : Int} (k : Nat) (t : List Int) (h0 : c ≠ 59) (h : ¬ (c = 38 ∨ c = 60)) : endK k (c :: t) = endK (k + 1) t := by
  unfold endK
  rw [endN, if_neg h0, if_neg h]
  cases endN t with
  | none => rfl
  | some n => show ((n + 1 : Nat) : Int) + k = (n : Int) + (k + 1 : Nat); omega
set_option maxRecDepth 100000 in
set_option maxHeartbeats 1000000 in
theorem refs_ends (s : ByteArray) (w : World) (hs : s.size ≤ 1099511627776) :
    Calls Try.prog 44 #[.string s] w fun e w' => e = .returned (.int .i64 (endI (nums s))) ∧ Below w.heap.size w w' := by
  have hcv := Lib.run_convert_string_bytes (P := Try.prog) w 9 37 5 s Try.underlying9 Try.underlying37 Try.underlying5
  have hrow := LowRow.made w 5 s
  have hbl := bytes_below w 5 s
  obtain ⟨cap, hcap⟩ : ∃ cap, grownCap w s.size 0 5 = cap := ⟨_, rfl⟩
  obtain ⟨w2, hw2⟩ : ∃ w2, Lib.bytesWorld w 5 s = w2 := ⟨_, rfl⟩
  rw [hcap, hw2] at hcv
  rw [hw2] at hrow hbl
  clear hw2 hcap
  obtain ⟨p, hp⟩ : ∃ p, w.heap.size = p := ⟨_, rfl⟩
  have HP := Lib.hid hp
  rw [hp] at hcv hrow hbl
  clear hp
  go_enter Try.func44, Try.ntmps44
  go_wp2
  go_loop [8] (fun i => ∃ k : Nat, i = .int .i64 k ∧ k ≤ s.size ∧ endK k ((nums s).drop k) = endI (nums s)) (fun i => s.size - (intOf i).toNat)
  case atStart => exact ⟨0, rfl, by omega, by rw [List.drop_zero, endK_zero]⟩
  case round =>
    obtain ⟨k, rfl, hk, hq⟩ := hrel
    by_cases hlt : k < s.size
    · have hca := hrow.cellAt k (by rw [nums_length]; exact hlt)
      obtain ⟨c, hc⟩ : ∃ c : Int, (s[k].toNat : Int) = c := ⟨_, rfl⟩
      rw [nums_at s k hlt, hc] at hca
      rw [nums_drop s k hlt, hc] at hq
      clear hc
      by_cases h59 : c = 59
      · have q1 : (c == 59) = true := by simpa using h59
        rw [h59, endK_59] at hq
        have HQ := Lib.hid hq
        clear hq h59
        go_wp2
        go_ret
        exact ⟨ret_int HQ.out, by rw [HP.out]; exact hbl⟩
      · have q1 : (c == 59) = false := by simpa using h59
        by_cases hbad : c = 38 ∨ c = 60
        · rw [endK_bad k _ h59 hbad] at hq
          have HQ := Lib.hid hq
          by_cases h38 : c = 38
          · have q2 : (c == 38) = true := by simpa using h38
            clear hq h59 hbad h38
            go_wp2
            go_ret
            exact ⟨ret_int HQ.out, by rw [HP.out]; exact hbl⟩
          · have q2 : (c == 38) = false := by simpa using h38
            have q3 : (c == 60) = true := by simpa using hbad.resolve_left h38
            clear hq h59 hbad h38
            go_wp2
            go_ret
            exact ⟨ret_int HQ.out, by rw [HP.out]; exact hbl⟩
        · rw [endK_go k _ h59 hbad] at hq
          have HQ := Lib.hid hq
          rw [not_or] at hbad
          have q2 : (c == 38) = false := by simpa using hbad.1
          have q3 : (c == 60) = false := by simpa using hbad.2
          clear hq h59 hbad
          go_wp2
          exact ⟨⟨k + 1, by go_num, by omega, HQ.out⟩, by simp [intOf]; omega⟩
    · rw [nums_drop_end s k (by omega), endK_nil] at hq
      have HQ := Lib.hid hq
      clear hq
      go_wp2
      go_ret
      exact ⟨ret_int HQ.out, by rw [HP.out]; exact hbl⟩
set_option maxRecDepth 100000 in
set_option maxHeartbeats 1000000 in
theorem ref13_end (s : ByteArray) (a : Nat) (w : World) (hs : s.size ≤ 1099511627776) (ha : a < s.size) :
    Calls Try.prog 29 #[.string s, .int .i64 a] w fun e w' => e = .returned (.int .i64 (endK (a + 1) ((nums s).drop (a + 1)))) ∧ w = w' := by
  go_enter Try.func29, Try.ntmps29
  go_wp2
  go_loop [5] (fun i => ∃ k : Nat, i = .int .i64 k ∧ k ≤ s.size ∧ a + 1 ≤ k ∧ endK k ((nums s).drop k) = endK (a + 1) ((nums s).drop (a + 1))) (fun i => s.size - (intOf i).toNat)
  case atStart => exact ⟨a + 1, by go_num, by omega, by omega, rfl⟩
  case round =>
    obtain ⟨k, rfl, hk, hk2, hq⟩ := hrel
    by_cases hlt : k < s.size
    · obtain ⟨c, hc⟩ : ∃ c : Int, (s[k].toNat : Int) = c := ⟨_, rfl⟩
      have hix := index_str s k hlt c k hc rfl
      rw [nums_drop s k hlt, hc] at hq
      clear hc
      by_cases h59 : c = 59
      · have q1 : (c == 59) = true := by simpa using h59
        rw [h59, endK_59] at hq
        have HQ := Lib.hid hq
        clear hq h59
        go_wp2
        go_ret
        exact ⟨ret_int HQ.out, rfl⟩
      · have q1 : (c == 59) = false := by simpa using h59
        by_cases hbad : c = 38 ∨ c = 60
        · rw [endK_bad k _ h59 hbad] at hq
          have HQ := Lib.hid hq
          by_cases h38 : c = 38
          · have q2 : (c == 38) = true := by simpa using h38
            clear hq h59 hbad h38
            go_wp2
            go_ret
            exact ⟨ret_int HQ.out, rfl⟩
          · have q2 : (c == 38) = false := by simpa using h38
            have q3 : (c == 60) = true := by simpa using hbad.resolve_left h38
            clear hq h59 hbad h38
            go_wp2
            go_ret
            exact ⟨ret_int HQ.out, rfl⟩
        · rw [endK_go k _ h59 hbad] at hq
          have HQ := Lib.hid hq
          rw [not_or] at hbad
          have q2 : (c == 38) = false := by simpa using hbad.1
          have q3 : (c == 60) = false := by simpa using hbad.2
          clear hq h59 hbad
          go_wp2
          exact ⟨⟨k + 1, by go_num, by omega, by omega, HQ.out⟩, by simp [intOf]; omega⟩
    · rw [nums_drop_end s k (by omega), endK_nil] at hq
      have HQ := Lib.hid hq
      clear hq
      go_wp2
      go_ret
      exact ⟨ret_int HQ.out, rfl⟩
/-- HTML's names, of numbers. -/
def htmN (l : List Int) : Int × Bool := htmU (l.map fun c => UInt8.ofNat c.toNat)
theorem htmN_nums (s : ByteArray) : htmN (nums s) = htmU s.data.toList := by
  unfold htmN nums
  rw [List.map_map]
  have : ((fun n : Int => UInt8.ofNat n.toNat) ∘ fun c : UInt8 => (c.toNat : Int)) = id := by funext c; simp
  rw [this, List.map_id]
theorem htmAt_drop (n : List UInt8) : ∀ (L : List (List UInt8 × Int)) (k : Nat), k ≤ L.length → (∀ j (h : j < L.length), j < k → L[j].1 ≠ n) → htmAt n L = (htmAt n (L.drop k)).map fun q => (q.1 + k, q.2)
  | L, 0, _, _ => by simp
  | [], k + 1, h, _ => by simp at h
  | p :: r, k + 1, h, hn => by
    have h0 : ¬ p.1 = n := hn 0 (by simp) (by omega)
    rw [htmAt, if_neg h0, htmAt_drop n r k (by simpa using h) (fun j hj hjk => hn (j + 1) (by simpa using hj) (by omega)), List.drop_succ_cons]
    cases htmAt n (r.drop k) <;> simp [Nat.add_assoc]
theorem htm_no {n : List UInt8} (hn : ∀ j (h : j < htmL.length), htmL[j].1 ≠ n) : htmU n = (0, false) := by
  have := htmAt_drop n htmL htmL.length (Nat.le_refl _) (fun j hj _ => hn j hj)
  unfold htmU
  rw [this, List.drop_length]
  rfl
theorem htm_yes {n : List UInt8} {k : Nat} (hk : k < htmL.length) (hn : ∀ j (h : j < htmL.length), j < k → htmL[j].1 ≠ n) (h : htmL[k].1 = n) : htmU n = (htmL[k].2, true) := by
  have := htmAt_drop n htmL k (by omega) hn
  unfold htmU
  rw [this, List.drop_eq_getElem_cons hk, htmAt, if_pos h]
  rfl
set_option maxRecDepth 100000 in
set_option maxHeartbeats 4000000 in
theorem ref13_Html (s : ByteArray) (w : World) :
    Calls Try.prog 20 #[.string s] w fun e w' => e = .returned (.tuple #[.int .i64 (htmN (nums s)).1, .bool (htmN (nums s)).2]) ∧ Below w.heap.size w w' := by
  rw [htmN_nums]
  go_enter Try.func20, Try.ntmps20
  go_wp2_with fail
  go_name_world W hW
  have hr1 : W.heap[w.heap.size]? = some (.cells (htmL.map fun p => Value.string ⟨p.1.toArray⟩).toArray 9 (0, 0)) := by
    rw [← hW]
    exact (Below.heap_alloc _ _ _ (by simp)).trans (heap_alloc_new w _)
  have hr2 : W.heap[w.heap.size + 1]? = some (.cells (htmL.map fun p => Value.int .i64 p.2).toArray 3 (0, 0)) := by
    rw [← hW]
    have := heap_alloc_new (w.alloc (.cells (htmL.map fun p => Value.string ⟨p.1.toArray⟩).toArray 9)) (.cells (htmL.map fun p => Value.int .i64 p.2).toArray 3)
    rw [World.size_alloc] at this
    exact this
  have hbl : Below w.heap.size w W := by
    rw [← hW]
    exact ((Below.refl _ w).alloc (Nat.le_refl _) _).alloc (by simp) _
  have hc1 : ∀ k (h : k < htmL.length), W.cell? ⟨w.heap.size, k, none⟩ = some (.string ⟨htmL[k].1.toArray⟩) := by
    intro k h
    rw [cell_of_row W _ k _ _ _ hr1, List.getElem?_toArray, List.getElem?_map, List.getElem?_eq_getElem h]; rfl
  have hc2 : ∀ k (h : k < htmL.length), W.cell? ⟨w.heap.size + 1, k, none⟩ = some (.int .i64 htmL[k].2) := by
    intro k h
    rw [cell_of_row W _ k _ _ _ hr2, List.getElem?_toArray, List.getElem?_map, List.getElem?_eq_getElem h]; rfl
  have hlen : htmL.length = 40 := rfl
  have H1 := Lib.hid hc1
  have H2 := Lib.hid hc2
  clear hc1 hc2 hr1 hr2 hW
  go_loop [6] (fun i => ∃ k : Nat, i = .int .i64 k ∧ k ≤ 40 ∧ Hid (∀ j (h : j < htmL.length), j < k → htmL[j].1 ≠ s.data.toList)) (fun i => 40 - (intOf i).toNat)
  case atStart => exact ⟨0, rfl, by omega, Lib.hid fun j _ h => by omega⟩
  case round =>
    obtain ⟨k, rfl, hk, HN⟩ := hrel
    by_cases hlt : k < 40
    · have hkl : k < htmL.length := hlt
      have hx := H1.out k hkl
      have hy := H2.out k hkl
      obtain ⟨n, hn⟩ : ∃ n : ByteArray, n = ⟨htmL[k].1.toArray⟩ := ⟨_, rfl⟩
      rw [← hn] at hx
      have hnl : n.toList = htmL[k].1 := by rw [ByteArray.toList_eq, hn]
      obtain ⟨v, hv⟩ : ∃ v, htmL[k].2 = v := ⟨_, rfl⟩
      rw [hv] at hy
      by_cases he : htmL[k].1 = s.data.toList
      · have HY := Lib.hid (htm_yes hkl HN.out he)
        rw [hv] at HY
        have hq : (n.toList == s.toList) = true := by rw [hnl, he, ByteArray.toList_eq]; simp
        clear hn hnl hv he hlen
        go_wp2
        go_ret2
        exact ⟨by rw [HY.out]; try rfl, hbl⟩
      · have HM : Hid (∀ j (h : j < htmL.length), j < k + 1 → htmL[j].1 ≠ s.data.toList) := Lib.hid (by
          intro j hj hjk
          by_cases e : j = k
          · subst e; exact he
          · exact HN.out j hj (by omega))
        have hq : (n.toList == s.toList) = false := by rw [hnl, ByteArray.toList_eq]; simpa using he
        clear hn hnl hv he hlen
        go_wp2
        exact ⟨⟨k + 1, by go_num, by omega, HM⟩, by simp [intOf]; omega⟩
    · have HY := Lib.hid (htm_no fun j hj => HN.out j hj (by omega))
      clear hlen
      go_wp2
      go_ret2
      exact ⟨by rw [HY.out]; try rfl, hbl⟩
theorem htm_index (n X : ByteArray) (hX : X.data.toList = 32 :: (n.data.toList ++ [32])) (hn : (32 : UInt8) ∉ n.data.toList) (h0 : n.data.toList ≠ []) :
    (htmU n.data.toList = (0, false) ∧ Lib.index (joinS htmL) X.data.toList = -1) ∨ ∃ (p q : Nat) (v : Int), htmU n.data.toList = (v, true) ∧ Lib.index (joinS htmL) X.data.toList = p ∧ p ≤ 240 ∧ ((joinS htmL).take p).count 32 = q ∧ (htmL.map (·.2))[q]? = some v := by
  have h := html_find n.data.toList hn h0 htmL htmL_words
  rw [hX]
  unfold htmU
  cases ha : htmAt n.data.toList htmL with
  | none => rw [ha] at h; exact .inl ⟨rfl, h⟩
  | some q =>
    rw [ha] at h
    obtain ⟨p, h1, h2, h3, h4⟩ := h
    exact .inr ⟨p, q.1, q.2, rfl, h1, h2, h3, h4⟩
theorem htm_call (S X : ByteArray) (hS : S.data.toList = joinS htmL) (hs : S.size < 4294967281) (a m : Int) (ha : Lib.index (joinS htmL) X.data.toList = a) (w : World) (hm : w.cell? ⟨0, 0, none⟩ = some (.int .i64 m)) :
    Calls Try.prog 34 #[.string S, .string X] w fun e w' => e = .returned (.int .i64 a) ∧ w' = w := by
  rw [← ha, ← hS]
  exact Try.strings_Index S X m w hs hm
theorem htm_count (S : ByteArray) (hS : S.data.toList = joinS htmL) (p q : Nat) (hq : ((joinS htmL).take p).count 32 = q) (w : World) :
    Calls Try.prog 37 #[.string (S.extract 0 p), .string ⟨#[32]⟩] w fun e w' => e = .returned (.int .i64 q) ∧ w' = w := by
  have h := Try.strings_Count_one (S.extract 0 p) 32 w
  have : (S.extract 0 p).data.toList = (joinS htmL).take p := by rw [← hS]; simp [ByteArray.data_extract]
  rw [this] at h
  unfold Lib.countByte at h
  rw [hq] at h
  exact h
theorem htm_scal (S : ByteArray) (hS : scalL (nums S) = htmL.map (·.2)) (ho : okAll (nums S) = true) (hs : S.size ≤ 137438953472) (w : World) :
    Calls Try.prog 36 #[.string S] w fun e w' => ∃ v, e = .returned (.tuple #[v, .bool true]) ∧ Reads w'.heap.size w' v ((htmL.map (·.2)).map (Value.int .i64)) ∧ Below w.heap.size w w' := by
  refine (utf8_Scalars S w hs).mono ?_
  rintro e w' ⟨v, rfl, ho', hb⟩
  rw [hS] at ho'
  exact ⟨v, by rw [ho], Reads.of_own ho' (by decide), hb⟩
set_option maxRecDepth 100000 in
set_option maxHeartbeats 4000000 in
theorem refs_Html (s : ByteArray) (m : Int) (w : World) (hs : s.size ≤ 4000000) (hm : w.cell? ⟨0, 0, none⟩ = some (.int .i64 m)) :
    Calls Try.prog 19 #[.string s] w fun e w' => e = .returned (.tuple #[.int .i64 (htmN (nums s)).1, .bool (htmN (nums s)).2]) ∧ Below w.heap.size w w' := by
  rw [htmN_nums]
  obtain ⟨X, hX⟩ : ∃ X : ByteArray, ⟨#[32]⟩ ++ s ++ ⟨#[32]⟩ = X := ⟨_, rfl⟩
  have hXs : X.size = s.size + 2 := by rw [← hX]; simp [show (⟨#[32]⟩ : ByteArray).size = 1 from rfl]; omega
  have hXd : X.data.toList = 32 :: (s.data.toList ++ [32]) := by rw [← hX]; simp [ByteArray.data_append]
  have hgw : 0 < w.heap.size := by
    have hm' := hm
    simp only [World.cell?] at hm'
    by_cases hlt : 0 < w.heap.size
    · exact hlt
    · rw [Array.getElem?_eq_none (by omega)] at hm'; simp at hm'
  obtain ⟨d, hd⟩ : ∃ d, Lib.indexByte s.data.toList 32 = d := ⟨_, rfl⟩
  have hI : ∀ w, Calls Try.prog 35 #[.string s, .int .u8 32] w fun e w' => e = .returned (.int .i64 d) ∧ w' = w := fun w => by rw [← hd]; exact Try.strings_IndexByte s 32 w
  have HI := Lib.hid hI
  have hdg : -1 ≤ d := by rw [← hd]; exact Lib.indexByte_ge _ _
  have HM := Lib.hid hm
  clear hI hm
  by_cases h0 : s.size = 0
  · have hs0 := toList_nilR h0
    have hsd : s.data.toList = [] := List.eq_nil_of_length_eq_zero (by rw [Array.length_toList]; exact h0)
    have HU := Lib.hid (show htmU s.data.toList = (0, false) by rw [hsd]; rfl)
    clear hd hsd h0
    go_enter Try.func19, Try.ntmps19
    go_wp2_with fail
    refine (Try.strings_Index _ X m _ (by decide) HM.out).mono ?_
    generalize Lib.index _ X.data.toList = i
    rintro e w1 ⟨rfl, rfl⟩
    by_cases hi : i < 0
    all_goals
      go_wp2_with (go_at_call 35; refine (HI.out _).mono ?_; rintro e w' ⟨rfl, rfl⟩)
      go_ret2
      exact ⟨by rw [HU.out]; try rfl, Below.refl _ _⟩
  · have hs0 := isEmpty_neR h0
    have hne : s.data.toList ≠ [] := by intro e; have := congrArg List.length e; rw [Array.length_toList] at this; exact h0 this
    by_cases hd0 : d < 0
    · have h32 : (32 : UInt8) ∉ s.data.toList := by
        intro hmem
        obtain ⟨k, hk, hk2⟩ := List.getElem_of_mem hmem
        exact Lib.indexByte_none (l := s.data.toList) (c := 32) (by omega) k (by rw [List.getElem?_eq_getElem hk, hk2])
      have hdi := hd0
      rcases htm_index s X hXd h32 hne with ⟨hu, hx⟩ | ⟨p, q, v, hu, hx, hp, hq, hv⟩
      · have HU := Lib.hid hu
        have HX := Lib.hid hx
        clear hd hXd hne h32 h0 hu hx
        go_enter Try.func19, Try.ntmps19
        go_wp2_with fail
        refine (htm_call _ X ?_ (by decide) (-1) m HX.out _ HM.out).mono ?_
        · rfl
        rintro e w1 ⟨rfl, rfl⟩
        go_wp2_with (go_at_call 35; refine (HI.out _).mono ?_; rintro e w' ⟨rfl, rfl⟩)
        go_ret2
        exact ⟨by rw [HU.out]; try rfl, Below.refl _ _⟩
      · have HU := Lib.hid hu
        have HX := Lib.hid hx
        have HQ := Lib.hid hq
        have hql := (List.getElem?_eq_some_iff.1 hv).1
        have hq40 : q < 40 := hql
        have HV := Lib.hid (show (htmL.map (·.2))[q]'hql = v from (List.getElem?_eq_some_iff.1 hv).2)
        clear hd hXd hne h32 h0 hu hx hq hv
        go_enter Try.func19, Try.ntmps19
        go_wp2_with fail
        refine (htm_call _ X ?_ (by decide) p m HX.out _ HM.out).mono ?_
        · rfl
        rintro e w1 ⟨rfl, rfl⟩
        go_wp2_with (go_at_call 35; refine (HI.out _).mono ?_; rintro e w' ⟨rfl, rfl⟩)
        refine (htm_scal _ (by kernel_rfl) (by kernel_rfl) (by decide) _).mono ?_
        rintro e w2 ⟨u, rfl, hru, hb2⟩
        obtain ⟨a, cap, rfl, hl, hc⟩ := hru.open
        obtain ⟨b, off, rfl, hbB, hcx⟩ := hc q hql
        rw [HV.out] at hcx
        have hl40 : (htmL.map (·.2)).length = 40 := rfl
        rw [hl40] at *
        clear hru hc hl hl40
        go_wp2_with fail
        refine (htm_count _ ?_ p q HQ.out _).mono ?_
        · rfl
        rintro e w3 ⟨rfl, rfl⟩
        go_wp2_with fail
        go_ret2
        exact ⟨by rw [HU.out]; try rfl, hb2⟩
    · have h32 : (32 : UInt8) ∈ s.data.toList := by
        obtain ⟨h1, _⟩ := Lib.indexByte_some (l := s.data.toList) (c := 32) (o := d.toNat) (by omega)
        exact List.mem_of_getElem? h1
      have HU := Lib.hid (show htmU s.data.toList = (0, false) from htm_no fun j hj e => htmL_words _ (List.getElem_mem hj) (by rw [e]; exact h32))
      clear hd hXd hne h32 h0
      go_enter Try.func19, Try.ntmps19
      go_wp2_with fail
      refine (Try.strings_Index _ X m _ (by decide) HM.out).mono ?_
      generalize Lib.index _ X.data.toList = i
      rintro e w1 ⟨rfl, rfl⟩
      by_cases hi : i < 0
      all_goals
        go_wp2_with (go_at_call 35; refine (HI.out _).mono ?_; rintro e w' ⟨rfl, rfl⟩)
        go_ret2
        exact ⟨by rw [HU.out]; try rfl, Below.refl _ _⟩
end Go.Proofs.Ytkdkoondchbekaa
