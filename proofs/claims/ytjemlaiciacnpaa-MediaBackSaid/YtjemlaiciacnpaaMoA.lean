/-
  Layer 6: the walks of media's token and written, the reference's name.
-/
import Derived.Test.YtjemlaiciacnpaaMoP
import Derived.Test.YtjemlaiciacnpaaMeK
namespace Go.Proofs.Ytjemlaiciacnpaa
open Go.RowKit
theorem scan_token_new (s : ByteArray) (w : World) : ScanAt (w.alloc (.cells #[.string s, .int .i64 0] 41)) w.heap.size s 0 :=
  ⟨_, heap_alloc_new w _⟩
theorem below_grown {w w' : World} {p : Nat} {o : Obj} (hp : w.heap.size = p) (h : (w.alloc o).grownBy w' (some p)) : Below w.heap.size w w' :=
  (((Below.refl w.heap.size w).alloc (Nat.le_refl _) o)).grown h (by simp) fun k hk => by cases hk; omega
theorem strOf_all {s : ByteArray} (h : (nums s).all isTok = true) : strOfNums ((nums s).takeWhile isTok) = s := by
  rw [(takeWhile_all isTok (nums s)).2 h, strOfNums_nums]
theorem strOf_not {s : ByteArray} (h : ¬ (nums s).all isTok = true) : strOfNums ((nums s).takeWhile isTok) ≠ s := fun e => h (by
  rw [← takeWhile_len_all]
  have h1 : (strOfNums ((nums s).takeWhile isTok)).size = s.size := by rw [e]
  rw [nums_length, ← h1]
  simp [strOfNums, ByteArray.size])
set_option maxHeartbeats 1000000 in
theorem media_token (s : ByteArray) (w : World) (hs : s.size ≤ 1000000) :
    Calls Try.prog 30 #[.string s] w fun e w' => e = .returned (.bool (tokB (nums s))) ∧ Below w.heap.size w w' := by
  have hsc := scan_token_new s w
  have hr := fun u hu => scan_token w.heap.size s 0 u hu (Nat.zero_le _) (by omega)
  rw [List.drop_zero] at hr
  by_cases ha : (nums s).all isTok = true
  · rw [strOf_all ha] at hr
    have HR := Lib.hid hr
    have e1 : (s.toList == s.toList) = true := by simp
    have hT : tokB (nums s) = !(nums s).isEmpty := by unfold tokB; rw [ha, Bool.and_true]
    rw [hT]
    have hne : (nums s).isEmpty = (s.toList == []) := by
      rw [ByteArray.toList_eq]
      unfold nums
      cases s.data.toList <;> rfl
    rw [hne]
    obtain ⟨b, hb⟩ : ∃ b, (s.toList == []) = b := ⟨_, rfl⟩
    rw [hb]
    clear hr hT hne ha
    go_enter Try.func30, Try.ntmps30
    go_wp2_with fail
    refine (HR.out _ hsc).mono ?_
    rintro e w' ⟨rfl, h1, h2⟩
    have hbb := below_grown rfl h2
    go_wp2_with fail
    go_ret
    exact ⟨rfl, hbb⟩
  · have e1 := toList_ne (strOf_not ha)
    have hT : tokB (nums s) = false := by
      cases ht : tokB (nums s) with
      | false => rfl
      | true => exact absurd ((tokB_iff _).1 ht).2 ha
    rw [hT]
    obtain ⟨x, hx⟩ : ∃ x, strOfNums ((nums s).takeWhile isTok) = x := ⟨_, rfl⟩
    rw [hx] at hr e1
    have HR := Lib.hid hr
    clear hr hT ha hx
    go_enter Try.func30, Try.ntmps30
    go_wp2_with fail
    refine (HR.out _ hsc).mono ?_
    rintro e w' ⟨rfl, h1, h2⟩
    have hbb := below_grown rfl h2
    go_wp2_with fail
    go_ret
    exact ⟨rfl, hbb⟩
theorem isBs_lowM {l : List Int} (h : isBs l) : isBs (lowL l) := by
  intro x hx
  unfold lowL at hx
  obtain ⟨c, hc, rfl⟩ := List.mem_map.1 hx
  have := h c hc
  unfold lowB
  split <;> omega
set_option maxHeartbeats 1000000 in
theorem ref06_name (s : ByteArray) (w : World) (hs : s.size ≤ 1000000) :
    Calls Try.prog 32 #[.string s] w fun e w' => e = .returned (.bool (namB (nums s))) ∧ Below w.heap.size w w' := by
  have hsp : (0 + spanN isTok s 0 = s.size) ↔ (nums s).all isTok = true := by
    unfold spanN
    rw [List.drop_zero, Nat.zero_add, ← takeWhile_len_all, nums_length]
  have h1 := fun u => ref06_token s 0 u (Nat.zero_le _) (by omega)
  have h2 := fun u => ref06_Lower s u (by omega)
  obtain ⟨E, hE⟩ : ∃ E, 0 + spanN isTok s 0 = E := ⟨_, rfl⟩
  rw [hE] at h1 hsp
  clear hE
  obtain ⟨X, hX⟩ : ∃ X, strOfNums (lowL (nums s)) = X := ⟨_, rfl⟩
  rw [hX] at h2
  have hlo : lowL (nums s) = nums s ↔ X = s := by
    rw [← hX]
    constructor
    · intro h; rw [h, strOfNums_nums]
    · intro h
      have := congrArg nums h
      rwa [nums_strOfNums _ (isBs_lowM (nums_isBs s))] at this
  have hB := Below.refl w.heap.size w
  have H1 := Lib.hid h1
  have H2 := Lib.hid h2
  clear h1 h2 hX
  by_cases h0 : s.toList = []
  · have e0 : (s.toList == []) = true := by rw [h0]; rfl
    have hT : namB (nums s) = false := by
      have : nums s = [] := by rw [ByteArray.toList_eq] at h0; unfold nums; rw [h0]; rfl
      rw [this]; rfl
    rw [hT]
    clear h0 hT hlo hsp
    go_enter Try.func32, Try.ntmps32
    go_wp2_with fail
    go_ret
    exact ⟨rfl, hB⟩
  · have e0 : (s.toList == []) = false := by simpa using h0
    have hne : nums s ≠ [] := fun e => h0 (by
      rw [ByteArray.toList_eq]
      unfold nums at e
      simpa using e)
    by_cases ha : (nums s).all isTok = true
    · have hEs : E = s.size := hsp.2 ha
      have e1 : ((E : Int) == (s.size : Int)) = true := by rw [hEs]; simp
      have hT : namB (nums s) = decide (lowL (nums s) = nums s) := by
        unfold namB
        rw [(tokB_iff _).2 ⟨hne, ha⟩, Bool.true_and]
      rw [hT]
      by_cases hx : X = s
      · have e2 : (X.toList == s.toList) = true := by rw [hx]; simp
        rw [decide_eq_true (hlo.2 hx)]
        clear hT hlo hsp ha hEs hx h0 hne
        go_enter Try.func32, Try.ntmps32
        go_wp2_with fail
        refine (H1.out _).mono ?_
        rintro e w' ⟨rfl, rfl⟩
        go_wp2_with fail
        refine (H2.out _).mono ?_
        rintro e w' ⟨rfl, hb⟩
        go_wp2_with fail
        go_ret
        exact ⟨rfl, hb⟩
      · have e2 := toList_ne hx
        rw [decide_eq_false (fun e => hx (hlo.1 e))]
        clear hT hlo hsp ha hEs hx h0 hne
        go_enter Try.func32, Try.ntmps32
        go_wp2_with fail
        refine (H1.out _).mono ?_
        rintro e w' ⟨rfl, rfl⟩
        go_wp2_with fail
        refine (H2.out _).mono ?_
        rintro e w' ⟨rfl, hb⟩
        go_wp2_with fail
        go_ret
        exact ⟨rfl, hb⟩
    · have e1 : ((E : Int) == (s.size : Int)) = false := by
        have : ¬ (E : Int) = (s.size : Int) := fun e => ha (hsp.1 (by omega))
        simpa using this
      have hT : namB (nums s) = false := by
        cases ht : namB (nums s) with
        | false => rfl
        | true =>
          unfold namB at ht
          rw [Bool.and_eq_true] at ht
          exact absurd ((tokB_iff _).1 ht.1).2 ha
      rw [hT]
      clear hT hlo hsp ha h0 hne
      go_enter Try.func32, Try.ntmps32
      go_wp2_with fail
      refine (H1.out _).mono ?_
      rintro e w' ⟨rfl, rfl⟩
      go_wp2_with fail
      go_ret
      exact ⟨rfl, hB⟩
set_option maxRecDepth 100000 in
set_option maxHeartbeats 4000000 in
theorem media_written (v : ByteArray) (w : World) (hs : v.size ≤ 1000000) :
    Calls Try.prog 31 #[.string v] w fun e w' => e = .returned (.tuple #[.string (strOfNums ((wriN (nums v)).getD [])), .bool (wriN (nums v)).isSome]) ∧ Below w.heap.size w w' := by
  have h1 := fun u => media_token v u hs
  by_cases ht : tokB (nums v) = true
  · have hW : wriN (nums v) = some (nums v) := by unfold wriN; rw [if_pos ht]
    rw [hW]
    rw [ht] at h1
    have H1 := Lib.hid h1
    clear h1 ht hW
    rw [show (some (nums v)).getD [] = nums v from rfl, strOfNums_nums]
    go_enter Try.func31, Try.ntmps31
    go_wp2_with fail
    refine (H1.out _).mono ?_
    rintro e w' ⟨rfl, hb⟩
    go_wp2_with fail
    go_ret2
    exact ⟨rfl, hb⟩
  · have hW : wriN (nums v) = (escL (nums v)).map fun q => 34 :: (q ++ [34]) := by unfold wriN; rw [if_neg ht]
    have ht : tokB (nums v) = false := by simpa using ht
    rw [ht] at h1
    have H1 := Lib.hid h1
    clear h1
    obtain ⟨R, hR⟩ : ∃ R, wriN (nums v) = R := ⟨_, rfl⟩
    rw [hR] at hW ⊢
    have HW := Lib.hid hW
    clear hW hR ht
    go_enter Try.func31, Try.ntmps31
    go_wp2_with fail
    refine (H1.out _).mono ?_
    rintro e w1 ⟨rfl, hb⟩
    go_wp2_with fail
    have hown0 : (w1.alloc (.cells #[.int .u8 34] 5)).ownsRow w1.heap.size 5 1 (.slice (some ⟨w1.heap.size, 0, none⟩) 1 1) ([34] : List Int).length (([34] : List Int).map (Value.int .u8)) :=
      ⟨rfl, .inr ⟨w1.heap.size, 1, #[.int .u8 34], rfl, Nat.le_refl _, heap_alloc_new w1 _, Nat.le_refl _, by unfold maxLen; omega, rfl, rfl⟩⟩
    have hb0 := (Below.refl w1.heap.size w1).alloc (Nat.le_refl _) (.cells #[.int .u8 34] 5)
    generalize w1.alloc (.cells #[.int .u8 34] 5) = w2 at hown0 hb0 ⊢
    go_loopw [4, 13] (fun vv i wr => ∃ (k : Nat) (acc : List Int), i = .int .i64 k ∧ k ≤ v.size ∧ acc.length ≤ 1 + 2 * k ∧ Hid (R = (escL ((nums v).drop k)).map fun q => acc ++ (q ++ [34])) ∧ wr.ownsRow w1.heap.size 5 1 vv acc.length (acc.map (Value.int .u8)) ∧ Below w1.heap.size w1 wr) (fun _ i _ => v.size - (intOf i).toNat)
    case atStart => exact ⟨0, [34], rfl, by omega, by simp, Lib.hid (by rw [HW.out]; rfl), hown0, hb0⟩
    case round =>
      clear hown0 hb0
      obtain ⟨k, acc, rfl, hk, hacc, HK, hown, hbw⟩ := hrel
      by_cases hlt : k < v.size
      · have hdr := nums_drop v k hlt
        obtain ⟨c, hc⟩ : ∃ c, v[k].toNat = c := ⟨_, rfl⟩
        have hc256 : c < 256 := by rw [← hc]; exact byte256 v k hlt
        have hidx := index_str v k hlt (c : Int) k (by rw [hc]) rfl
        have hq := HK.out
        rw [hdr, hc, escL] at hq
        clear hdr hc HK
        by_cases hc2 : (c : Int) = 34 ∨ (c : Int) = 92
        · rw [if_pos hc2, Option.map_map] at hq
          obtain ⟨v1, w3, hr1, ho1, hb1, _⟩ := app_u8 wr w1.heap.size _ acc.length acc hown 92 (by omega) hbw.size
          have HA1 := Lib.hid hr1
          obtain ⟨v2, w4, hr2, ho2, hb2, _⟩ := app_u8 w3 w1.heap.size _ (acc.length + 1) (acc ++ [92]) ho1 c (by omega) (Nat.le_trans hbw.size hb1.size)
          have HA2 := Lib.hid hr2
          have HQ := Lib.hid hq
          have HO := Lib.hid ho2
          clear hr1 hr2 hq hown ho1 ho2
          rcases hc2 with e1 | e1
          · have q1 : ((c : Int) == 34) = true := by simpa using e1
            clear e1
            go_wp2_with (first | (at_builtin; refine wpList_append_run rfl _ _ _ _ rfl _ _ rfl rfl _ _ HA1.out ?_) | (at_builtin; refine wpList_append_run rfl _ _ _ _ rfl _ _ rfl rfl _ _ HA2.out ?_))
            refine ⟨⟨k + 1, acc ++ [92] ++ [(c : Int)], by go_num, by omega, by simp; omega, Lib.hid ?_, by simpa using HO.out, (hbw.trans hb1).trans hb2⟩, by simp [intOf]; omega⟩
            rw [HQ.out]
            congr 1
            funext q
            simp
          · have q1 : ((c : Int) == 34) = false := by rw [e1]; rfl
            have q2 : ((c : Int) == 92) = true := by simpa using e1
            clear e1
            go_wp2_with (first | (at_builtin; refine wpList_append_run rfl _ _ _ _ rfl _ _ rfl rfl _ _ HA1.out ?_) | (at_builtin; refine wpList_append_run rfl _ _ _ _ rfl _ _ rfl rfl _ _ HA2.out ?_))
            refine ⟨⟨k + 1, acc ++ [92] ++ [(c : Int)], by go_num, by omega, by simp; omega, Lib.hid ?_, by simpa using HO.out, (hbw.trans hb1).trans hb2⟩, by simp [intOf]; omega⟩
            rw [HQ.out]
            congr 1
            funext q
            simp
        · rw [if_neg hc2] at hq
          have q1 : ((c : Int) == 34) = false := by simpa using fun e => hc2 (.inl e)
          have q2 : ((c : Int) == 92) = false := by simpa using fun e => hc2 (.inr e)
          obtain ⟨n, hn⟩ : ∃ n, kindsN (c : Int) = n := ⟨_, rfl⟩
          obtain ⟨m, hm⟩ : ∃ m, bits .and .i64 n 4 = m := ⟨_, rfl⟩
          have hmz := (kinds_and c hc256).2.2.1
          rw [hn, hm] at hmz
          have HN := Lib.hid hn
          clear hn hc2
          cases hi : isQt (c : Int) with
          | false =>
            rw [hi] at hmz
            have q3 : (m == 0) = true := by simpa using hmz
            rw [hi, if_neg (by decide)] at hq
            have hR : R = none := by rw [hq]; rfl
            subst hR
            clear hi hq hown hmz
            go_wp2_with fail
            refine (kinds_quiet c hc256 n HN.out _).mono ?_
            rintro e w3 ⟨rfl, rfl⟩
            go_wp2_with fail
            go_ret2
            exact ⟨rfl, hb.trans (hbw.mono hb.size)⟩
          | true =>
            rw [hi] at hmz
            have q3 : (m == 0) = false := by simpa using hmz
            rw [hi, if_pos rfl, Option.map_map] at hq
            obtain ⟨v1, w3, hr1, ho1, hb1, _⟩ := app_u8 wr w1.heap.size _ acc.length acc hown c (by omega) hbw.size
            have HA1 := Lib.hid hr1
            have HQ := Lib.hid hq
            have HO := Lib.hid ho1
            clear hi hq hown hmz hr1 ho1
            go_wp2_with fail
            refine (kinds_quiet c hc256 n HN.out _).mono ?_
            rintro e w4 ⟨rfl, rfl⟩
            go_wp2_with (at_builtin; refine wpList_append_run rfl _ _ _ _ rfl _ _ rfl rfl _ _ HA1.out ?_)
            refine ⟨⟨k + 1, acc ++ [(c : Int)], by go_num, by omega, by simp; omega, Lib.hid ?_, by simpa using HO.out, hbw.trans hb1⟩, by simp [intOf]; omega⟩
            rw [HQ.out]
            congr 1
            funext q
            simp
      · have hq := HK.out
        rw [nums_drop_end v k (by omega)] at hq
        have hR : R = some (acc ++ [34]) := by rw [hq]; rfl
        subst hR
        obtain ⟨v1, w3, hr1, ho1, hb1, _⟩ := app_u8 wr w1.heap.size _ acc.length acc hown 34 (by omega) hbw.size
        have HA1 := Lib.hid hr1
        have hcv := conv_own w3 w1.heap.size _ (acc.length + 1) (acc ++ [34]) ho1
        clear hr1 ho1 hown hq HK HW
        go_wp2_with (at_builtin; refine wpList_append_run rfl _ _ _ _ rfl _ _ rfl rfl _ _ HA1.out ?_)
        go_ret2
        exact ⟨rfl, hb.trans ((hbw.trans hb1).mono hb.size)⟩
end Go.Proofs.Ytjemlaiciacnpaa
