/-
  Layer 6: the walk of the reference's Text.
-/
import Derived.Test.YtjemlaiciacnpaaMoD
import Derived.Test.YtjemlaiciacnpaaMoR
namespace Go.Proofs.Ytjemlaiciacnpaa
open Go.RowKit
theorem take_span0 (t : ByteArray) : nums (t.extract 0 (spanN isTok t 0)) = (nums t).takeWhile isTok := by
  have := nums_extract_span isTok t 0
  rwa [Nat.zero_add, List.drop_zero] at this
theorem drop_span0 (t : ByteArray) : (nums t).drop (spanN isTok t 0) = (nums t).dropWhile isTok := by
  have := drop_span isTok t 0
  rwa [Nat.zero_add, List.drop_zero] at this
theorem typ_no1 (t : ByteArray) (h : t.size ≤ spanN isTok t 0) : typB (nums t) = false := by
  have hd : (nums t).dropWhile isTok = [] := by rw [← drop_span0]; exact nums_drop_end t _ h
  unfold typB
  rw [hd]
theorem typ_no2 (t : ByteArray) (h : spanN isTok t 0 < t.size) (hc : (t[spanN isTok t 0].toNat : Int) ≠ 47) : typB (nums t) = false := by
  have hd : (nums t).dropWhile isTok = (t[spanN isTok t 0].toNat : Int) :: (nums t).drop (spanN isTok t 0 + 1) := by rw [← drop_span0]; exact nums_drop t _ h
  unfold typB
  rw [hd]
  split
  · rename_i e; injection e with e1 e2; exact absurd e1 hc
  · rfl
theorem typ_at (t : ByteArray) (h : spanN isTok t 0 < t.size) (hc : (t[spanN isTok t 0].toNat : Int) = 47) :
    typB (nums t) = (namB (nums (t.extract 0 (spanN isTok t 0))) && namB (nums (t.extract (spanN isTok t 0 + 1) t.size))) := by
  have hd : (nums t).dropWhile isTok = 47 :: (nums t).drop (spanN isTok t 0 + 1) := by rw [← drop_span0, nums_drop t _ h, hc]
  have hb : nums (t.extract (spanN isTok t 0 + 1) t.size) = (nums t).drop (spanN isTok t 0 + 1) := by
    rw [nums_extractM]
    exact List.take_of_length_le (by rw [List.length_drop, nums_length]; omega)
  rw [take_span0, hb]
  obtain ⟨a, ha⟩ : ∃ a, (nums t).takeWhile isTok = a := ⟨_, rfl⟩
  obtain ⟨b, hb⟩ : ∃ b, (nums t).drop (spanN isTok t 0 + 1) = b := ⟨_, rfl⟩
  have hl : nums t = a ++ 47 :: b := by rw [← ha, ← hb, ← hd, List.takeWhile_append_dropWhile]
  have hall : a.all isTok = true := by rw [← ha]; exact List.all_takeWhile
  unfold typB
  rw [hd, hb, ha]
  show (!a.isEmpty && (tokB b && decide (lowL (nums t) = nums t))) = _
  have hlow : decide (lowL (nums t) = nums t) = (decide (lowL a = a) && decide (lowL b = b)) := by
    rw [hl, show lowL (a ++ 47 :: b) = lowL a ++ 47 :: lowL b by rw [low_app]; rfl]
    rw [Bool.eq_iff_iff, Bool.and_eq_true, decide_eq_true_iff, decide_eq_true_iff, decide_eq_true_iff]
    constructor
    · intro e
      obtain ⟨e1, e2⟩ := List.append_inj e (by simp [lowL])
      injection e2 with e3 e4
      exact ⟨e1, e4⟩
    · rintro ⟨e1, e2⟩; rw [e1, e2]
  unfold namB
  rw [hlow]
  unfold tokB
  rw [hall]
  cases a.isEmpty <;> cases b.isEmpty <;> cases b.all isTok <;> cases decide (lowL a = a) <;> cases decide (lowL b = b) <;> rfl
theorem nums_one (s : ByteArray) (j : Nat) (h : j < s.size) (c : Nat) (hc : s[j].toNat = c) : nums (s.extract j (j + 1)) = [(c : Int)] := by
  rw [nums_extractM, nums_drop s j h, hc, Nat.add_sub_cancel_left]
  rfl
theorem TxP.drewN {w u : World} {bm : Nat} {cs : Array Value} {m : Int} {p : Nat} {q1 q2 : ByteArray} (h : TxP w bm cs m p q1 q2 u) (n : Nat) : TxP w bm cs m p q1 q2 (u.drewN n) := h.below (below_dn (Below.refl _ u) n)
set_option maxRecDepth 100000 in
set_option maxHeartbeats 8000000 in
theorem ref06_Text_no (B : Nat) (t : ByteArray) (v : Value) (qs : List (ByteArray × ByteArray)) (w : World) (hr : CReads B w v qs.length (pairCells qs)) (ht : t.size ≤ 1000000) (hT : typB (nums t) = false) :
    Calls Try.prog 19 #[.agg #[.string t, v]] w fun e w' => TxtR (txtN (nums t) (numsP qs)) e ∧ Below w.heap.size w w' := by
  have hR : txtN (nums t) (numsP qs) = none := by unfold txtN; rw [hT]; rfl
  rw [hR]
  clear hR
  obtain ⟨a, cap, rfl, -⟩ := hr
  have hb0 := (Below.refl w.heap.size w).alloc (Nat.le_refl _) (.cells #[.string t, .slice a qs.length cap] 25)
  have h1 := fun u => ref06_token t 0 u (Nat.zero_le _) (by omega)
  have hE0 := spanN_le isTok t 0 (Nat.zero_le _)
  rw [Nat.zero_add] at h1 hE0
  have hat := typ_at t
  obtain ⟨E, hE⟩ : ∃ E, spanN isTok t 0 = E := ⟨_, rfl⟩
  have hat' : ∀ h : E < t.size, (t[E].toNat : Int) = 47 → typB (nums t) = (namB (nums (t.extract 0 E)) && namB (nums (t.extract (E + 1) t.size))) := by subst hE; exact hat
  clear hat
  rw [hE] at h1 hE0
  have H1 := Lib.hid h1
  clear h1 hE
  by_cases hlt : E < t.size
  · have hge := decide_eq_false (show ¬ (t.size : Int) ≤ (E : Int) by omega)
    obtain ⟨c, hc⟩ : ∃ c, t[E].toNat = c := ⟨_, rfl⟩
    have hidx := index_str t E hlt (c : Int) E (by rw [hc]) rfl
    have hat := hat' hlt
    rw [hc] at hat
    clear hat' hc
    by_cases hc47 : (c : Int) = 47
    · have q2 : ((c : Int) != 47) = false := by simp [hc47]
      have hnn := hat hc47
      rw [hT] at hnn
      clear hat hT hc47
      obtain ⟨X1, hX1⟩ : ∃ x, t.extract 0 E = x := ⟨_, rfl⟩
      obtain ⟨X2, hX2⟩ : ∃ x, t.extract (E + 1) t.size = x := ⟨_, rfl⟩
      have hz1 : X1.size ≤ 1000000 := by rw [← hX1, ByteArray.size_extract]; omega
      have hz2 : X2.size ≤ 1000000 := by rw [← hX2, ByteArray.size_extract]; omega
      rw [hX1, hX2] at hnn
      have h3 := fun u => ref06_name X1 u hz1
      have h4 := fun u => ref06_name X2 u hz2
      cases k1 : namB (nums X1) with
      | false =>
        rw [k1] at h3
        have H3 := Lib.hid h3
        clear h3 h4 hnn k1 hX2
        go_enter Try.func19, Try.ntmps19
        go_wp2_with fail
        refine (H1.out _).mono ?_
        rintro e w1 ⟨rfl, rfl⟩
        go_wp2_with fail
        refine (H3.out _).mono ?_
        rintro e w1 ⟨rfl, hb1⟩
        go_wp2_with fail
        go_ret2
        exact ⟨rfl, bt hb0 hb1⟩
      | true =>
        have k2 : namB (nums X2) = false := by rw [k1, Bool.true_and] at hnn; exact hnn.symm
        rw [k1] at h3
        rw [k2] at h4
        have H3 := Lib.hid h3
        have H4 := Lib.hid h4
        clear h3 h4 hnn k1 k2
        have hn1 := BlkAt.new w #[.string t, .slice a qs.length cap] 25
        go_enter Try.func19, Try.ntmps19
        go_wp2_with fail
        refine (H1.out _).mono ?_
        rintro e w1 ⟨rfl, rfl⟩
        go_wp2_with fail
        generalize w.alloc (.cells #[.string t, .slice a qs.length cap] 25) = w1 at hn1 hb0 ⊢
        refine (H3.out _).mono ?_
        rintro e w2 ⟨rfl, hb1⟩
        have hc0 := (hn1.below hb1 hn1.lt).cell 0 rfl
        go_wp2_with fail
        refine (H4.out _).mono ?_
        rintro e w3 ⟨rfl, hb2⟩
        go_wp2_with fail
        go_ret2
        exact ⟨rfl, bt (bt hb0 hb1) hb2⟩
    · have q2 : ((c : Int) != 47) = true := by simpa using hc47
      clear hat hT hc47
      go_enter Try.func19, Try.ntmps19
      go_wp2_with fail
      refine (H1.out _).mono ?_
      rintro e w1 ⟨rfl, rfl⟩
      go_wp2_with fail
      go_ret2
      exact ⟨rfl, hb0⟩
  · have hge := decide_eq_true (show (t.size : Int) ≤ (E : Int) by omega)
    clear hat' hT
    go_enter Try.func19, Try.ntmps19
    go_wp2_with fail
    refine (H1.out _).mono ?_
    rintro e w1 ⟨rfl, rfl⟩
    go_wp2_with fail
    go_ret2
    exact ⟨rfl, hb0⟩
end Go.Proofs.Ytjemlaiciacnpaa
