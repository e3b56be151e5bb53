/-
  The walks of the reference's single: iso5, iso15, high, Scalar, Table, Byte.
-/
import Derived.Test.YtnpglglhhjjehaaSgD
namespace Go.Proofs.Ytnpglglhhjjehaa
open Go.RowKit
theorem cyr_eq (x : Int) : cyrOf x = if x < 161 ∨ x = 173 then x else if x = 240 then 8470 else if x = 253 then 167 else x - 160 + 1024 := by
  unfold cyrOf plainOf
  by_cases h1 : x = 240
  · subst h1; rfl
  · by_cases h2 : x = 253
    · subst h2; rfl
    · have hg : iget fiveL x = none := by
        unfold fiveL
        simp only [iget]
        rw [if_neg (by simp; omega), if_neg (by simp; omega)]
      simp [hg, h1, h2]
theorem nine_eq (x : Int) : plainOf nineL x = if x = 164 then 8364 else if x = 166 then 352 else if x = 168 then 353 else if x = 180 then 381 else if x = 184 then 382 else if x = 188 then 338 else if x = 189 then 339 else if x = 190 then 376 else x := by
  unfold plainOf nineL
  simp only [iget, beq_iff_eq, eq_comm (b := x)]
  (repeat' split) <;> rfl
theorem iget_odd (b : Int) : ∀ (k : Int) (L : List (Int × Int)) (xs : List Int), iget (oddGo k L xs) b = if k ≤ b ∧ b < k + xs.length then xs[(b - k).toNat]? else iget L b
  | k, L, [] => by rw [oddGo, if_neg (by rw [List.length_nil]; omega)]
  | k, L, x :: xs => by
    rw [oddGo, iget_odd b (k + 1), iget_put]
    simp only [List.length_cons]
    by_cases h : b = k
    · subst h
      rw [if_neg (by omega), if_pos rfl, if_pos (by omega)]
      simp
    · rw [if_neg h]
      by_cases h2 : k + 1 ≤ b ∧ b < k + 1 + xs.length
      · rw [if_pos h2, if_pos (by omega)]
        have : (b - k).toNat = (b - (k + 1)).toNat + 1 := by omega
        rw [this, List.getElem?_cons_succ]
      · rw [if_neg h2, if_neg (by omega)]
theorem win_eq (b : Int) : plainOf winL b = if 128 ≤ b ∧ b < 160 then (winX[(b - 128).toNat]?).getD b else b := by
  unfold plainOf winL
  rw [iget_odd]
  have : (winX.length : Int) = 32 := rfl
  rw [this]
  by_cases h : 128 ≤ b ∧ b < 128 + 32
  · rw [if_pos h, if_pos (by omega)]
  · rw [if_neg h, if_neg (by omega)]; rfl
set_option maxHeartbeats 1000000 in
theorem ref04_iso5 (x : Int) (w : World) (h0 : 0 ≤ x) (h1 : x < 256) :
    Calls Try.prog 21 #[.int .i64 x] w fun r w' => r = .returned (.int .i64 (cyrOf x)) ∧ w = w' := by
  have HC := Lib.hid (cyr_eq x)
  go_enter Try.func21, Try.ntmps21
  go_wp2
  all_goals
    go_light
    (try simp only [beq_iff_eq, beq_eq_false_iff_ne] at *)
    go_ret
    refine ⟨ret_int ?_, rfl⟩
    rw [HC.out]
    (repeat' split) <;> first | rfl | omega
set_option maxHeartbeats 1000000 in
theorem ref04_iso15 (x : Int) (w : World) :
    Calls Try.prog 22 #[.int .i64 x] w fun r w' => r = .returned (.int .i64 (plainOf nineL x)) ∧ w = w' := by
  have HC := Lib.hid (nine_eq x)
  go_enter Try.func22, Try.ntmps22
  go_wp2
  all_goals
    go_light
    (try simp only [beq_iff_eq, beq_eq_false_iff_ne] at *)
    go_ret
    refine ⟨ret_int ?_, rfl⟩
    rw [HC.out]
    (repeat' split) <;> first | rfl | omega
set_option maxHeartbeats 1000000 in
theorem ref04_high (w : World) :
    Calls Try.prog 20 #[] w fun r w' => ∃ b, r = .returned (.slice (some ⟨b, 0, none⟩) 32 32) ∧ (∀ i (h : i < winX.length), w'.cell? ⟨b, i, none⟩ = some (.int .i64 winX[i])) ∧ Below w.heap.size w w' := by
  go_enter Try.func20, Try.ntmps20
  go_wp2
  go_ret
  refine ⟨w.heap.size, rfl, fun i hi => ?_, (Below.refl _ _).alloc (Nat.le_refl _) _⟩
  rw [World.cell?_alloc_mark]
  have hL : (winX.map (Value.int .i64))[i]? = some (.int .i64 winX[i]) := by rw [List.getElem?_map, List.getElem?_eq_getElem hi]; rfl
  rw [← hL, ← Array.getElem?_toList]
  rfl
set_option maxHeartbeats 2000000 in
theorem ref04_Scalar (e b : Int) (w : World) (h0 : 0 ≤ b) (h1 : b < 256) :
    Calls Try.prog 8 #[.int .i8 e, .int .u8 b] w fun r w' => r = .returned (.tuple #[.int .i64 (scalR e b), .bool (isEnc e)]) ∧ Below w.heap.size w w' := by
  by_cases e3 : e = 3
  · subst e3
    by_cases hb : 128 ≤ b ∧ b < 160
    · obtain ⟨hb1, hb2⟩ := hb
      have hi : (b - 128).toNat < winX.length := by show _ < 32; omega
      obtain ⟨y, hy⟩ : ∃ y, winX[(b - 128).toNat] = y := ⟨_, rfl⟩
      have HR := Lib.hid (show scalR 3 b = y by
        show plainOf winL b = y
        rw [win_eq, if_pos ⟨hb1, hb2⟩, List.getElem?_eq_getElem hi, hy]; rfl)
      obtain ⟨k, rfl⟩ : ∃ k : Nat, b = 128 + k := ⟨(b - 128).toNat, by omega⟩
      have hk : (128 + (k : Int) - 128).toNat = k := by omega
      have hyk : ∀ (W : World) (bb : Nat), (∀ i (h : i < winX.length), W.cell? ⟨bb, i, none⟩ = some (.int .i64 winX[i])) → W.cell? ⟨bb, k, none⟩ = some (.int .i64 y) := by
        intro W bb hW
        have := hW k (by rw [hk] at hi; exact hi)
        rw [this, ← hy]; simp only [hk]
      have HY := Lib.hid hyk
      have hk32 : k < 32 := by omega
      clear hy hi hyk hk
      go_enter Try.func8, Try.ntmps8
      go_wp2_with (go_at_call 20; refine (ref04_high _).mono ?_; rintro e' w1 ⟨bb, rfl, hc, hb1'⟩; have hcell := HY.out _ _ hc; clear hc)
      go_ret2
      exact ⟨by rw [HR.out]; rfl, hb1'⟩
    · have HR := Lib.hid (show scalR 3 b = b by show plainOf winL b = b; rw [win_eq, if_neg hb])
      by_cases hb1 : b < 128
      · clear hb
        go_enter Try.func8, Try.ntmps8
        go_wp2
        go_ret2
        exact ⟨by rw [HR.out]; rfl, Below.refl _ _⟩
      · have hb2 : 160 ≤ b := by omega
        clear hb
        go_enter Try.func8, Try.ntmps8
        go_wp2
        go_ret2
        exact ⟨by rw [HR.out]; rfl, Below.refl _ _⟩
  · by_cases e4 : e = 4
    · subst e4
      have HR := Lib.hid (show scalR 4 b = cyrOf b from rfl)
      go_enter Try.func8, Try.ntmps8
      go_wp2_with (go_at_call 21; refine (ref04_iso5 b _ h0 h1).mono ?_; rintro e' w1 ⟨rfl, rfl⟩)
      go_ret2
      exact ⟨by rw [HR.out]; rfl, Below.refl _ _⟩
    · by_cases e5 : e = 5
      · subst e5
        have HR := Lib.hid (show scalR 5 b = plainOf nineL b from rfl)
        go_enter Try.func8, Try.ntmps8
        go_wp2_with (go_at_call 22; refine (ref04_iso15 b _).mono ?_; rintro e' w1 ⟨rfl, rfl⟩)
        go_ret2
        exact ⟨by rw [HR.out]; rfl, Below.refl _ _⟩
      · have he : isEnc e = false := decide_eq_false (by omega)
        have HR := Lib.hid (show scalR e b = 0 by unfold scalR; rw [he]; rfl)
        have HE := Lib.hid he
        have c3 : (e == 3) = false := by simpa using e3
        have c4 : (e == 4) = false := by simpa using e4
        have c5 : (e == 5) = false := by simpa using e5
        clear e3 e4 e5 he
        go_enter Try.func8, Try.ntmps8
        go_wp2
        go_ret2
        exact ⟨by rw [HR.out, HE.out]; rfl, Below.refl _ _⟩
set_option maxRecDepth 100000 in
set_option maxHeartbeats 2000000 in
theorem ref04_Table (e : Int) (w : World) :
    Calls Try.prog 12 #[.int .i8 e] w fun r w' => ∃ v, r = .returned v ∧ w'.ownsRow w.heap.size 3 1 v (tabL e).length ((tabL e).map (Value.int .i64)) ∧ Below w.heap.size w w' := by
  cases he : isEnc e with
  | false =>
    have HE := Lib.hid he
    have HT := Lib.hid (tabL_no he)
    go_enter Try.func12, Try.ntmps12
    go_wp2
    refine wp_loop_rounds 1 ?_
    rw [rounds_succ]
    go_wp2_with (go_at_call 8; refine (ref04_Scalar e _ _ (by omega) (by omega)).mono ?_; rw [HE.out]; rintro e' w1 ⟨rfl, hb1⟩)
    go_ret
    exact ⟨_, rfl, by rw [HT.out]; exact World.ownsRow_nil _ _ _ _, hb1⟩
  | true =>
    have HE := Lib.hid he
    have HL := Lib.hid (tabL_len he)
    have HT := Lib.hid (tabL_yes he)
    clear he
    go_enter Try.func12, Try.ntmps12
    go_wp2
    go_loopw [3, 4] (fun v x wr => TabAt e w v x wr) (fun _ x _ => 256 - (intOf x).toNat)
    case atStart => exact ⟨0, rfl, by omega, World.ownsRow_nil _ _ _ _, Below.refl _ _⟩
    case round =>
      obtain ⟨k, rfl, hk, hown, hb⟩ := hrel
      by_cases hlt : k < 256
      · have happ := fun (w' : World) (hb2 : Below wr.heap.size wr w') => app_int w' w.heap.size u3 k ((List.range k).map fun i => encOf e (i : Nat)) (own_below hown hb2 (Nat.le_refl _)) (scalR e k) (by omega) (Nat.le_trans hb.size hb2.size)
        have HAp := Lib.hid happ
        have hk256 : (k : Int) % 256 = k := by omega
        have HS := Lib.hid (show scalR e k = encOf e k by unfold scalR; rw [HE.out]; rfl)
        clear happ hown
        go_wp2_with (first
          | (at_builtin; refine wpList_append_run rfl _ _ _ _ rfl _ _ rfl rfl _ _ HR.out ?_)
          | (go_at_call 8; refine (ref04_Scalar e _ _ (by omega) (by omega)).mono ?_; rw [HE.out]; rintro e' w2 ⟨rfl, hb2⟩; obtain ⟨v', w3, hr, ho1, hb3, _⟩ := HAp.out w2 hb2; have HR := Lib.hid (show _ = _ from hr); clear hr))
        rw [HS.out, tab_snoc] at ho1
        exact ⟨⟨k + 1, by go_num, by omega, ho1, hb.trans ((hb2.mono hb.size).trans hb3)⟩, by simp [intOf]; omega⟩
      · obtain rfl : k = 256 := by omega
        go_wp2
        go_ret
        exact ⟨_, rfl, by rw [HL.out, HT.out]; exact hown, hb⟩
theorem findI_take {xs : List Int} {x : Int} : ∀ (k : Nat) (j : Int), (∀ y ∈ xs.take k, y ≠ x) → findI xs j x = findI (xs.drop k) (j + k) x := by
  induction xs with
  | nil => intro k j _; simp [findI]
  | cons y r ih =>
    intro k j h
    cases k with
    | zero => simp
    | succ k =>
      rw [List.take_succ_cons] at h
      have h1 := h y (List.mem_cons_self ..)
      rw [findI, if_neg (by simpa using h1), List.drop_succ_cons, ih k (j + 1) (fun z hz => h z (List.mem_cons_of_mem _ hz))]
      congr 1
      omega
set_option maxRecDepth 100000 in
set_option maxHeartbeats 2000000 in
theorem ref04_Byte (e x : Int) (w : World) :
    Calls Try.prog 10 #[.int .i8 e, .int .i64 x] w fun r w' => r = .returned (.tuple #[.int .u8 ((byteOf e x).getD 0), .bool (byteOf e x).isSome]) ∧ Below w.heap.size w w' := by
  have hlen := tabL_le e
  obtain ⟨T, hT⟩ : ∃ T, tabL e = T := ⟨_, rfl⟩
  rw [hT] at hlen
  have HT := Lib.hid hT
  have HBk := Lib.hid (show byteOf e x = findI T 0 x by unfold byteOf; rw [hT])
  clear hT
  go_enter Try.func10, Try.ntmps10
  go_wp2_with (go_at_call 12; refine (ref04_Table e _).mono ?_; rw [HT.out]; rintro e' w1 ⟨v, rfl, hown, hb1⟩; obtain ⟨a, cap, rfl, _, hc⟩ := (Reads.of_own hown (by unfold maxLen; omega)).open)
  clear hown
  go_loop [7] (fun i => ∃ k : Nat, i = .int .i64 k ∧ k ≤ T.length ∧ ∀ y ∈ T.take k, y ≠ x) (fun i => T.length - (intOf i).toNat)
  case atStart => exact ⟨0, rfl, by omega, fun y hy => by simp at hy⟩
  case round =>
    obtain ⟨k, rfl, hk, hno⟩ := hrel
    by_cases hlt : k < T.length
    · obtain ⟨b, off, rfl, hbB, hcx⟩ := hc k hlt
      obtain ⟨y, hy⟩ : ∃ y, T[k] = y := ⟨_, rfl⟩
      rw [hy] at hcx
      by_cases hyx : y = x
      · have hf : findI T 0 x = some (k : Int) := by
          rw [findI_take k 0 hno, List.drop_eq_getElem_cons hlt, hy, findI, if_pos (by simp [hyx])]
          simp
        have HF := Lib.hid hf
        have hk256 : (k : Int) % 256 = k := by omega
        have hxy : (y == x) = true := by simp [hyx]
        clear hc hf hno hy hyx
        go_wp2
        go_ret2
        exact ⟨by rw [HBk.out, HF.out]; rfl, hb1⟩
      · have hn1 : ∀ z ∈ T.take (k + 1), z ≠ x := by
          intro z hz
          rw [take_snocL T k hlt, List.mem_append, List.mem_singleton] at hz
          rcases hz with hz | rfl
          · exact hno z hz
          · rw [hy]; exact hyx
        have HN := Lib.hid hn1
        have hxy : (y == x) = false := by simpa using hyx
        clear hc hn1 hno hy hyx
        go_wp2
        exact ⟨⟨k + 1, by go_num, by omega, HN.out⟩, by simp [intOf]; omega⟩
    · obtain rfl : k = T.length := by omega
      have hf : findI T 0 x = none := by
        rw [findI_take T.length 0 hno, List.drop_length]; rfl
      have HF := Lib.hid hf
      clear hc hf hno
      go_wp2
      go_ret2
      exact ⟨by rw [HBk.out, HF.out]; rfl, hb1⟩
end Go.Proofs.Ytnpglglhhjjehaa
