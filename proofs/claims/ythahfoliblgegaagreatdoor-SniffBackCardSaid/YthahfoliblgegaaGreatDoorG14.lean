/-
  Parts SnG of this seat's texts, in one file: contracts of functions that the law reaches, and the plain laws behind them. No condition.
-/
import Derived.Test.YthahfoliblgegaaGreatDoorG13
import Derived.Test.YthahfoliblgegaaGreatDoorG3
/- 
  Layer 8: bounds; the walks of both Encode and both Text; two rows of reasons compared.
 -/
namespace Go.Proofs.YthahfoliblgegaaGreatDoor
open Go.RowKit
/-! bounds -/
theorem dec_pos (big : Bool) : ∀ (f a : Nat) (l : List Int), ∀ p ∈ (dec16 big f a l).2, (a : Int) ≤ p ∧ p < a + l.length
  | 0, _, _, p, h => by cases h
  | _ + 1, _, [], p, h => by cases h
  | _ + 1, a, [_], p, h => by
    have h1 : p ∈ [(a : Int)] := h
    rw [List.mem_singleton.1 h1]
    simp only [List.length_cons, List.length_nil]
    omega
  | f + 1, a, x :: y :: r, p, h => by
    have hn := step16_n big x y r
    have ih := dec_pos big f (a + (step16 big x y r).2.1) ((x :: y :: r).drop (step16 big x y r).2.1) p
    rw [List.length_drop] at ih
    simp only [List.length_cons] at ih ⊢
    rw [dec16] at h
    have h2 : p ∈ (dec16 big f (a + (step16 big x y r).2.1) ((x :: y :: r).drop (step16 big x y r).2.1)).2 ∨ p = a := by
      simp only at h
      split at h
      · exact .inl h
      · rcases List.mem_cons.1 h with h | h
        · exact .inr h
        · exact .inl h
    rcases h2 with h2 | h2
    · have := ih h2
      omega
    · omega
theorem hdI_mem (l : List Int) (N : Int) (h : ∀ p ∈ l, 0 ≤ p ∧ p < N) (hN : 0 ≤ N) : -1 ≤ hdI l ∧ hdI l ≤ N := by
  cases l with
  | nil => exact ⟨by simp [hdI], by simp [hdI]; omega⟩
  | cons c r => have := h c (List.mem_cons_self ..); simp only [hdI]; omega
theorem decP_bd (e : Int) (b : ByteArray) : -1 ≤ (decP e b).2 ∧ (decP e b).2 ≤ b.size := by
  unfold decP
  split
  · have h1 := firstN_hi (nums b)
    have h2 := firstP_lo 0 (pieces (nums b))
    rw [nums_length] at h1
    exact ⟨h2, h1⟩
  · split
    · exact hdI_mem _ _ (fun p hp => by
        have := dec_pos _ _ 0 _ p hp
        rw [nums_length] at this
        omega) (by omega)
    · split
      · simp only; omega
      · split
        · simp only; omega
        · simp only; omega
theorem ofP_range (s : ByteArray) : ∀ l : List (Int × ByteArray), (∀ p ∈ l, 0 ≤ p.1 ∧ p.1 ≤ 5) → 0 ≤ (ofP s l).1 ∧ (ofP s l).1 ≤ 5
  | [], _ => by simp [ofP]
  | p :: r, h => by
    rw [ofP]
    split
    · exact h p (List.mem_cons_self ..)
    · exact ofP_range s r fun q hq => h q (List.mem_cons_of_mem _ hq)
theorem restP_range : ∀ p ∈ restP 0, 0 ≤ p.1 ∧ p.1 ≤ 5 := by
  have h : (restP 0).all (fun p => decide (0 ≤ p.1 ∧ p.1 ≤ 5)) = true := by decide +kernel
  exact fun p hp => of_decide_eq_true (List.all_eq_true.1 h p hp)
theorem labS_range (s : ByteArray) : 0 ≤ (labS s).1 ∧ (labS s).1 ≤ 5 := ofP_range _ _ restP_range
theorem mrkV_range (l : List Int) : (0 ≤ (mrkV l).1 ∧ (mrkV l).1 ≤ 5) ∧ (mrkV l).2.1 ≤ l.length := by
  unfold mrkV markD
  have pl : ∀ p : List Int, p.isPrefixOf l = true → p.length ≤ l.length := fun p h => (List.isPrefixOf_iff_prefix.1 h).length_le
  by_cases h1 : [239, 187, 191].isPrefixOf l = true
  · rw [if_pos h1]; have := pl _ h1; simp only [List.length_cons, List.length_nil] at this ⊢; omega
  · rw [if_neg h1]
    by_cases h2 : [255, 254].isPrefixOf l = true
    · rw [if_pos h2]; have := pl _ h2; simp only [List.length_cons, List.length_nil] at this ⊢; omega
    · rw [if_neg h2]
      by_cases h3 : [254, 255].isPrefixOf l = true
      · rw [if_pos h3]; have := pl _ h3; simp only [List.length_cons, List.length_nil] at this ⊢; omega
      · rw [if_neg h3]; simp only; omega
theorem shpV_range (l : List Int) : 0 ≤ (shpV l).1 ∧ (shpV l).1 ≤ 5 := by
  unfold shpV shapeD
  split
  · rename_i h
    split at h
    · cases h; omega
    · split at h
      · cases h; omega
      · cases h
  · simp only; omega
theorem thrK_range (b : ByteArray) (l : List Int) : (0 ≤ (thrK b l).1 ∧ (thrK b l).1 ≤ 5) ∧ (thrK b l).2.length ≤ l.length + 1 := by
  have := labS_range (scnV (partsD (nums b))).1
  unfold thrK
  split
  · split
    · exact ⟨this, by simp only; omega⟩
    · exact ⟨by simp only; omega, by simp⟩
  · exact ⟨by simp only; omega, by simp only; omega⟩
theorem twoK_range (b : ByteArray) (l : List Int) : (0 ≤ (twoK b l).1 ∧ (twoK b l).1 ≤ 5) ∧ (twoK b l).2.length ≤ l.length + 1 := by
  unfold twoK
  split
  · exact ⟨shpV_range _, by simp only; omega⟩
  · exact thrK_range b l
theorem oneK_range (k b : ByteArray) (l : List Int) : (0 ≤ (oneK k b l).1 ∧ (oneK k b l).1 ≤ 5) ∧ (oneK k b l).2.length ≤ l.length + 2 := by
  unfold oneK
  split
  · split
    · exact ⟨labS_range _, by simp only; omega⟩
    · have := twoK_range b (l ++ [1])
      rw [List.length_append] at this
      simp only [List.length_cons, List.length_nil] at this
      exact ⟨this.1, by omega⟩
  · have := twoK_range b l
    exact ⟨this.1, by omega⟩
theorem noneK_len (k : ByteArray) : (noneK k).length ≤ 1 := by unfold noneK; split <;> simp
theorem encP_range (k b : ByteArray) : (0 ≤ (encP k b).1 ∧ (encP k b).1 ≤ 5) ∧ (encP k b).2.1 ≤ b.size ∧ (encP k b).2.2.length ≤ 3 := by
  have h0 := noneK_len k
  unfold encP
  split
  · have := mrkV_range (nums b)
    rw [nums_length] at this
    exact ⟨this.1, this.2, by simp only; omega⟩
  · have := oneK_range k b (noneK k)
    exact ⟨this.1, Nat.zero_le _, by simp only; omega⟩
/-! Encode -/
set_option maxRecDepth 100000 in
set_option maxHeartbeats 2000000 in
theorem sniff_Encode (e : Int) (s : ByteArray) (w : World) (hs : s.size ≤ 100000) :
    Calls Tryz.prog 17 #[.int .i8 e, .string s] w fun r w' => Two2 w w' (.string (encQ e s).1) (.bool (encQ e s).2) r := by
  by_cases h0 : e = 0
  · subst h0
    have hv := fun w => utf8_Valid s w (by omega)
    have hq : encQ 0 s = if okAll (nums s) then (s, true) else (⟨#[]⟩, false) := rfl
    rw [hq]
    obtain ⟨b, hb⟩ : ∃ b, okAll (nums s) = b := ⟨_, rfl⟩
    rw [hb] at hv ⊢
    have H := Lib.hid hv
    clear hv hb hq
    cases b with
    | true =>
      go_enter Tryz.func17, Tryz.ntmps17
      go_wp2_with fail
      refine (H.out _).mono ?_
      rintro r w1 ⟨rfl, hb⟩
      go_wp2_with fail
      go_ret2
      exact ⟨rfl, hb⟩
    | false =>
      go_enter Tryz.func17, Tryz.ntmps17
      go_wp2_with fail
      refine (H.out _).mono ?_
      rintro r w1 ⟨rfl, hb⟩
      go_wp2_with fail
      go_ret2
      exact ⟨rfl, hb⟩
  · have q0 : (e == 0) = false := by simpa using h0
    by_cases h12 : e = 1 ∨ e = 2
    · have hu := fun w => utf16_Encode (decide (e = 2)) s w hs
      have hq : encQ e s = (encB (decide (e = 2)) s, encC s == 0) := by unfold encQ; rw [if_neg h0, if_pos h12]
      rw [hq]
      obtain ⟨T, hT⟩ : ∃ T, encB (decide (e = 2)) s = T := ⟨_, rfl⟩
      obtain ⟨c, hc⟩ : ∃ c, encC s = c := ⟨_, rfl⟩
      simp only [hT, hc] at hu ⊢
      clear hT hc hq
      rcases h12 with rfl | rfl
      all_goals
        have H := Lib.hid hu
        clear hu h0
        go_enter Tryz.func17, Tryz.ntmps17
        go_wp2_with fail
        refine (H.out _).mono ?_
        rintro r w1 ⟨rfl, hb⟩
        go_wp2_with fail
        go_ret2
        exact ⟨rfl, hb⟩
    · have q1 : (e == 1) = false := by simpa using fun x => h12 (.inl x)
      have q2 : (e == 2) = false := by simpa using fun x => h12 (.inr x)
      have hd := fun w => single_Encode e s w (by omega)
      have hq : encQ e s = (encT e s, encK e s == 0) := by unfold encQ; rw [if_neg h0, if_neg h12]
      rw [hq]
      obtain ⟨T, hT⟩ : ∃ T, encT e s = T := ⟨_, rfl⟩
      obtain ⟨c, hc⟩ : ∃ c, encK e s = c := ⟨_, rfl⟩
      obtain ⟨a, ha⟩ : ∃ c, encAt e s = c := ⟨_, rfl⟩
      simp only [hT, hc, ha] at hd ⊢
      have H := Lib.hid hd
      clear hd hT hc ha hq h0 h12
      go_enter Tryz.func17, Tryz.ntmps17
      go_wp2_with fail
      refine (H.out _).mono ?_
      rintro r w1 ⟨rfl, hb⟩
      go_wp2_with fail
      go_ret2
      exact ⟨rfl, hb⟩
set_option maxRecDepth 100000 in
set_option maxHeartbeats 2000000 in
theorem ref08_Encode (e : Int) (s : ByteArray) (w : World) (hs : s.size ≤ 100000) :
    Calls Tryz.prog 18 #[.int .i8 e, .string s] w fun r w' => Two2 w w' (.string (encQ e s).1) (.bool (encQ e s).2) r := by
  by_cases h0 : e = 0
  · subst h0
    have hv := fun w => ref02_Valid s w (by omega)
    have hq : encQ 0 s = if okAll (nums s) then (s, true) else (⟨#[]⟩, false) := rfl
    rw [hq]
    obtain ⟨b, hb⟩ : ∃ b, okAll (nums s) = b := ⟨_, rfl⟩
    rw [hb] at hv ⊢
    have H := Lib.hid hv
    clear hv hb hq
    cases b with
    | true =>
      go_enter Tryz.func18, Tryz.ntmps18
      go_wp2_with fail
      refine (H.out _).mono ?_
      rintro r w1 ⟨rfl, hb⟩
      go_wp2_with fail
      go_ret2
      exact ⟨rfl, hb⟩
    | false =>
      go_enter Tryz.func18, Tryz.ntmps18
      go_wp2_with fail
      refine (H.out _).mono ?_
      rintro r w1 ⟨rfl, hb⟩
      go_wp2_with fail
      go_ret2
      exact ⟨rfl, hb⟩
  · have q0 : (e == 0) = false := by simpa using h0
    by_cases h12 : e = 1 ∨ e = 2
    · have hu := fun w => ref03_Encode (decide (e = 2)) s w hs
      have hq : encQ e s = (encB (decide (e = 2)) s, encC s == 0) := by unfold encQ; rw [if_neg h0, if_pos h12]
      rw [hq]
      obtain ⟨T, hT⟩ : ∃ T, encB (decide (e = 2)) s = T := ⟨_, rfl⟩
      obtain ⟨c, hc⟩ : ∃ c, encC s = c := ⟨_, rfl⟩
      simp only [hT, hc] at hu ⊢
      clear hT hc hq
      rcases h12 with rfl | rfl
      all_goals
        have H := Lib.hid hu
        clear hu h0
        go_enter Tryz.func18, Tryz.ntmps18
        go_wp2_with fail
        refine (H.out _).mono ?_
        rintro r w1 ⟨rfl, hb⟩
        go_wp2_with fail
        go_ret2
        exact ⟨rfl, hb⟩
    · have q1 : (e == 1) = false := by simpa using fun x => h12 (.inl x)
      have q2 : (e == 2) = false := by simpa using fun x => h12 (.inr x)
      have hd := fun w => ref04_Encode e s w (by omega)
      have hq : encQ e s = (encT e s, encK e s == 0) := by unfold encQ; rw [if_neg h0, if_neg h12]
      rw [hq]
      obtain ⟨T, hT⟩ : ∃ T, encT e s = T := ⟨_, rfl⟩
      obtain ⟨c, hc⟩ : ∃ c, encK e s = c := ⟨_, rfl⟩
      obtain ⟨a, ha⟩ : ∃ c, encAt e s = c := ⟨_, rfl⟩
      simp only [hT, hc, ha] at hd ⊢
      have H := Lib.hid hd
      clear hd hT hc ha hq h0 h12
      go_enter Tryz.func18, Tryz.ntmps18
      go_wp2_with fail
      refine (H.out _).mono ?_
      rintro r w1 ⟨rfl, hb⟩
      go_wp2_with fail
      go_ret2
      exact ⟨rfl, hb⟩
/-! Text -/
/-- what Text comes to. -/
def TxtS (w w' : World) (R : ByteArray × Int × List (Int × Int)) (c : Int) (e : Ending) : Prop :=
  ∃ v, e = .returned (.tuple #[.string R.1, .int .i8 R.2.1, v, .int .i64 c]) ∧ w'.ownsRow w.heap.size 34 2 v R.2.2.length (rsC R.2.2) ∧ Below w.heap.size w w'
/-- what Text comes to, bodies that are too large told. -/
def txtR (kind body : ByteArray) : (ByteArray × Int × List (Int × Int)) × Int := if body.size > 4096 then ((⟨#[]⟩, 0, []), 40) else (txtP kind body, 0)
set_option maxRecDepth 100000 in
set_option maxHeartbeats 4000000 in
theorem sniff_Text (kind body : ByteArray) (hk : kind.size ≤ 100000) (w : World) (m : Int) (hm : MaxAt w m) (ht : TabAt w) :
    Calls Tryz.prog 10 #[.string kind, .string body] w fun e w' => TxtS w w' (txtR kind body).1 (txtR kind body).2 e := by
  by_cases hz : body.size > 4096
  · have hR : txtR kind body = ((⟨#[]⟩, 0, []), 40) := by unfold txtR; rw [if_pos hz]
    rw [hR]
    have hd := decide_eq_true (show (4096 : Int) < (body.size : Int) by omega)
    clear hR hz
    go_enter Tryz.func10, Tryz.ntmps10
    go_wp2_with fail
    refine bodyPost_ret (results_tmp4 rfl _ _ _) rfl ?_
    exact ⟨_, rfl, ⟨rfl, .inl ⟨rfl, rfl⟩⟩, Below.refl _ _⟩
  · have hR : txtR kind body = (txtP kind body, 0) := by unfold txtR; rw [if_neg hz]
    rw [hR]
    have hd := decide_eq_false (show ¬ (4096 : Int) < (body.size : Int) by omega)
    have hE := sniff_Encoding kind body hk (by omega) w m hm ht
    have hrg := encP_range kind body
    unfold txtP
    obtain ⟨E, hEE⟩ : ∃ E, encP kind body = E := ⟨_, rfl⟩
    rw [hEE] at hE hrg
    simp only [hEE]
    obtain ⟨enc, skip, lk⟩ := E
    simp only at hrg hE ⊢
    obtain ⟨⟨e0, e5⟩, hsk, hlk⟩ := hrg
    obtain ⟨X, hX⟩ : ∃ x, body.extract skip body.size = x := ⟨_, rfl⟩
    have hXs : X.size ≤ 100000 := by rw [← hX, ByteArray.size_extract]; omega
    have hXl : X.size ≤ 4096 := by rw [← hX, ByteArray.size_extract]; omega
    have hD := fun w => sniff_Decode enc X w hXs ⟨by omega, by omega⟩
    have hbd := decP_bd enc X
    rw [hX]
    obtain ⟨D, hDD⟩ : ∃ D, decP enc X = D := ⟨_, rfl⟩
    rw [hDD] at hD hbd ⊢
    obtain ⟨T, at_⟩ := D
    simp only at hD hbd ⊢
    obtain ⟨b0, b1⟩ := hbd
    have HE := Lib.hid hE
    have HD := Lib.hid hD
    have hsk2 : skip ≤ 4096 := by omega
    have hat : at_ ≤ 4096 := by omega
    clear hE hD hEE hDD hR hz hXs hXl b1
    by_cases hneg : 0 ≤ at_
    · have dn := decide_eq_true hneg
      rw [if_pos hneg]
      obtain ⟨s1, hs1⟩ : ∃ s, (skip : Int) + at_ = s := ⟨_, rfl⟩
      go_enter Tryz.func10, Tryz.ntmps10
      go_wp2_with fail
      refine (HE.out).mono ?_
      rintro e w1 ⟨v, rfl, ho1, hb1⟩
      go_wp2_with fail
      refine (HD.out _).mono ?_
      rintro e w2 ⟨rfl, hb2⟩
      have hb12 := bt hb1 hb2
      have ho2 := own_below ho1 hb2 (Nat.le_refl _)
      obtain ⟨v', w3, h1, h2, h3⟩ := app_rs w2 w.heap.size _ _ _ ho2 2 s1 (by omega) hb12.size
      have HA := Lib.hid h1
      have HO := Lib.hid h2
      clear h1 h2 ho1 ho2 hb1 hb2 hX
      go_wp2_with (at_builtin; refine wpList_append_run rfl _ _ _ _ rfl _ _ rfl rfl _ _ HA.out ?_)
      refine bodyPost_ret (results_tmp4 rfl _ _ _) rfl ?_
      refine ⟨_, rfl, ?_, hb12.trans h3⟩
      rw [hs1]
      show w3.ownsRow _ _ _ _ (k0 lk ++ [(2, s1)]).length (rsC (k0 lk ++ [(2, s1)]))
      rw [rsC_app, List.length_append, show (k0 lk).length = lk.length by simp [k0]]
      exact HO.out
    · have dn := decide_eq_false hneg
      rw [if_neg hneg, List.append_nil]
      go_enter Tryz.func10, Tryz.ntmps10
      go_wp2_with fail
      refine (HE.out).mono ?_
      rintro e w1 ⟨v, rfl, ho1, hb1⟩
      go_wp2_with fail
      refine (HD.out _).mono ?_
      rintro e w2 ⟨rfl, hb2⟩
      have hb12 := bt hb1 hb2
      have ho2 := own_below ho1 hb2 (Nat.le_refl _)
      have HO := Lib.hid ho2
      clear ho1 ho2 hb1 hb2 hX
      go_wp2_with fail
      refine bodyPost_ret (results_tmp4 rfl _ _ _) rfl ?_
      refine ⟨_, rfl, ?_, hb12⟩
      show w2.ownsRow _ _ _ _ (k0 lk).length (rsC (k0 lk))
      rw [show (k0 lk).length = lk.length by simp [k0]]
      exact HO.out
set_option maxRecDepth 100000 in
set_option maxHeartbeats 4000000 in
theorem ref08_Text (kind body : ByteArray) (hk : kind.size ≤ 100000) (w : World) :
    Calls Tryz.prog 11 #[.string kind, .string body] w fun e w' => TxtS w w' (txtR kind body).1 (txtR kind body).2 e := by
  by_cases hz : body.size > 4096
  · have hR : txtR kind body = ((⟨#[]⟩, 0, []), 40) := by unfold txtR; rw [if_pos hz]
    rw [hR]
    have hd := decide_eq_true (show (4096 : Int) < (body.size : Int) by omega)
    clear hR hz
    go_enter Tryz.func11, Tryz.ntmps11
    go_wp2_with fail
    refine bodyPost_ret (results_tmp4 rfl _ _ _) rfl ?_
    exact ⟨_, rfl, ⟨rfl, .inl ⟨rfl, rfl⟩⟩, Below.refl _ _⟩
  · have hR : txtR kind body = (txtP kind body, 0) := by unfold txtR; rw [if_neg hz]
    rw [hR]
    have hd := decide_eq_false (show ¬ (4096 : Int) < (body.size : Int) by omega)
    have hE := ref08_Encoding kind body hk (by omega) w
    have hrg := encP_range kind body
    unfold txtP
    obtain ⟨E, hEE⟩ : ∃ E, encP kind body = E := ⟨_, rfl⟩
    rw [hEE] at hE hrg
    simp only [hEE]
    obtain ⟨enc, skip, lk⟩ := E
    simp only at hrg hE ⊢
    obtain ⟨⟨e0, e5⟩, hsk, hlk⟩ := hrg
    obtain ⟨X, hX⟩ : ∃ x, body.extract skip body.size = x := ⟨_, rfl⟩
    have hXs : X.size ≤ 100000 := by rw [← hX, ByteArray.size_extract]; omega
    have hXl : X.size ≤ 4096 := by rw [← hX, ByteArray.size_extract]; omega
    have hD := fun w => ref08_Decode enc X w hXs
    have hbd := decP_bd enc X
    rw [hX]
    obtain ⟨D, hDD⟩ : ∃ D, decP enc X = D := ⟨_, rfl⟩
    rw [hDD] at hD hbd ⊢
    obtain ⟨T, at_⟩ := D
    simp only at hD hbd ⊢
    obtain ⟨b0, b1⟩ := hbd
    have HE := Lib.hid hE
    have HD := Lib.hid hD
    have hsk2 : skip ≤ 4096 := by omega
    have hat : at_ ≤ 4096 := by omega
    clear hE hD hEE hDD hR hz hXs hXl b1
    by_cases hneg : 0 ≤ at_
    · have dn := decide_eq_true hneg
      rw [if_pos hneg]
      obtain ⟨s1, hs1⟩ : ∃ s, (skip : Int) + at_ = s := ⟨_, rfl⟩
      go_enter Tryz.func11, Tryz.ntmps11
      go_wp2_with fail
      refine (HE.out).mono ?_
      rintro e w1 ⟨v, rfl, ho1, hb1⟩
      go_wp2_with fail
      refine (HD.out _).mono ?_
      rintro e w2 ⟨rfl, hb2⟩
      have hb12 := bt hb1 hb2
      have ho2 := own_below ho1 hb2 (Nat.le_refl _)
      obtain ⟨v', w3, h1, h2, h3⟩ := app_rs w2 w.heap.size _ _ _ ho2 2 s1 (by omega) hb12.size
      have HA := Lib.hid h1
      have HO := Lib.hid h2
      clear h1 h2 ho1 ho2 hb1 hb2 hX
      go_wp2_with (at_builtin; refine wpList_append_run rfl _ _ _ _ rfl _ _ rfl rfl _ _ HA.out ?_)
      refine bodyPost_ret (results_tmp4 rfl _ _ _) rfl ?_
      refine ⟨_, rfl, ?_, hb12.trans h3⟩
      rw [hs1]
      show w3.ownsRow _ _ _ _ (k0 lk ++ [(2, s1)]).length (rsC (k0 lk ++ [(2, s1)]))
      rw [rsC_app, List.length_append, show (k0 lk).length = lk.length by simp [k0]]
      exact HO.out
    · have dn := decide_eq_false hneg
      rw [if_neg hneg, List.append_nil]
      go_enter Tryz.func11, Tryz.ntmps11
      go_wp2_with fail
      refine (HE.out).mono ?_
      rintro e w1 ⟨v, rfl, ho1, hb1⟩
      go_wp2_with fail
      refine (HD.out _).mono ?_
      rintro e w2 ⟨rfl, hb2⟩
      have hb12 := bt hb1 hb2
      have ho2 := own_below ho1 hb2 (Nat.le_refl _)
      have HO := Lib.hid ho2
      clear ho1 ho2 hb1 hb2 hX
      go_wp2_with fail
      refine bodyPost_ret (results_tmp4 rfl _ _ _) rfl ?_
      refine ⟨_, rfl, ?_, hb12⟩
      show w2.ownsRow _ _ _ _ (k0 lk).length (rsC (k0 lk))
      rw [show (k0 lk).length = lk.length by simp [k0]]
      exact HO.out
/-- a slice of reasons, read. -/
theorem rsC_at (l : List (Int × Int)) (i : Nat) (q : Int × Int) (h : l[i]? = some q) : (rsC l)[i * 2]? = some (.int .i8 q.1) ∧ (rsC l)[i * 2 + 1]? = some (.int .i64 q.2) := by
  induction l generalizing i with
  | nil => simp at h
  | cons p l ih =>
    cases i with
    | zero =>
      simp at h
      subst h
      exact ⟨rfl, rfl⟩
    | succ i =>
      have := ih i (by simpa using h)
      show ([Value.int .i8 p.1, .int .i64 p.2] ++ rsC l)[(i + 1) * 2]? = _ ∧ ([Value.int .i8 p.1, .int .i64 p.2] ++ rsC l)[(i + 1) * 2 + 1]? = _
      rw [show (i + 1) * 2 = i * 2 + 2 by omega, show i * 2 + 2 + 1 = (i * 2 + 1) + 2 by omega]
      exact this
theorem CReads.rs {B : Nat} {w : World} {v : Value} {n : Nat} {l : List (Int × Int)} (hr : CReads B w v n (rsC l)) {C : Nat} {wr : World} (hb : Below C w wr) (hBC : B ≤ C) (k : Nat) (q : Int × Int) (hk : l[k]? = some q) :
    ∃ b off cap, v = .slice (some ⟨b, off, none⟩) n cap ∧ wr.cell? ⟨b, off + k * 2, none⟩ = some (.int .i8 q.1) ∧ wr.cell? ⟨b, off + k * 2 + 1, none⟩ = some (.int .i64 q.2) := by
  obtain ⟨a, cap, rfl, hc⟩ := hr
  obtain ⟨h0, h1⟩ := rsC_at l k q hk
  obtain ⟨b, off, rfl, hbB, hc0⟩ := hc _ _ h0
  obtain ⟨b', off', hbb, _, hc1⟩ := hc _ _ h1
  cases hbb
  exact ⟨b, off, cap, rfl, (hb.cell (p := ⟨b, off + k * 2, none⟩) (by show b < _; omega)).trans hc0, (hb.cell (p := ⟨b, off + (k * 2 + 1), none⟩) (by show b < _; omega)).trans hc1⟩
set_option maxRecDepth 100000 in
set_option maxHeartbeats 2000000 in
theorem ref08_Same (B : Nat) (v u : Value) (l : List (Int × Int)) (w : World) (hr : CReads B w v l.length (rsC l)) (hr2 : CReads B w u l.length (rsC l)) (hB : B ≤ w.heap.size) (hn : l.length ≤ 1000000) :
    Calls Tryz.prog 12 #[v, u] w fun e w' => e = .returned (.bool true) ∧ Below w.heap.size w w' := by
  have hr0 := hr
  have hr20 := hr2
  obtain ⟨a, cap, rfl, -⟩ := hr0
  obtain ⟨a2, cap2, rfl, -⟩ := hr20
  obtain ⟨n, hnq⟩ : ∃ n, l.length = n := ⟨_, rfl⟩
  have HL := Lib.hid hnq
  rw [hnq] at hr hr2 hn ⊢
  clear hnq
  go_enter Tryz.func12, Tryz.ntmps12
  go_wp2_with fail
  go_loopw [5] (fun i wr => ∃ k : Nat, i = .int .i64 k ∧ k ≤ n ∧ Below w.heap.size w wr) (fun i _ => n - (intOf i).toNat)
  case atStart => exact ⟨0, rfl, by omega, Below.refl _ _⟩
  case round =>
    obtain ⟨k, rfl, hk, hbw⟩ := hrel
    by_cases hlt : k < n
    · obtain ⟨q, hq⟩ : ∃ q, l[k]? = some q := ⟨_, List.getElem?_eq_getElem (by rw [HL.out]; exact hlt)⟩
      obtain ⟨b, off, cap', hv, hw0, hw1⟩ := hr.rs hbw hB k q hq
      cases hv
      obtain ⟨b', off', cap', hv2, hy0, hy1⟩ := hr2.rs hbw hB k q hq
      cases hv2
      obtain ⟨x, y⟩ := q
      simp only at hw0 hw1 hy0 hy1
      clear hr hr2 hq
      go_wp2_with fail
      go_quiet (fail)
      go_wp2_with fail
      exact ⟨⟨k + 1, by go_num, by omega, below_dn hbw _⟩, by simp [intOf]; omega⟩
    · clear hr hr2
      go_wp2_with fail
      go_ret
      exact ⟨rfl, hbw⟩
end Go.Proofs.YthahfoliblgegaaGreatDoor
