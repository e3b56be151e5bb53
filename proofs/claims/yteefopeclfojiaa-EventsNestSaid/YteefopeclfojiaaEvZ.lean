/-
  Layer 16: the walk of the document's fields.
-/
import Derived.Test.YteefopeclfojiaaEvA
import Derived.Test.YteefopeclfojiaaEvW
import Derived.Deep.QuietTactic
namespace Go.Proofs.Yteefopeclfojiaa
open Go.RowKit
/-- names of attributes. -/
def atN (l : List AtT) : List (ByteArray × ByteArray) := l.map fun a => a.1
theorem inL_snoc (x y : ByteArray × ByteArray) (l : List (ByteArray × ByteArray)) : inL x (l ++ [y]) = (inL x l || decide (x = y)) := by unfold inL; rw [List.any_append]; simp
theorem inL_mem {x : ByteArray × ByteArray} {l : List (ByteArray × ByteArray)} (h : x ∈ l) : inL x l = true := by
  unfold inL
  rw [List.any_eq_true]
  exact ⟨x, h, by simp⟩
set_option maxRecDepth 100000 in
set_option maxHeartbeats 4000000 in
theorem ref16_fields2 (e : Evt) (a : Option Addr) (n c : Nat) (w : World) (hk : e.k = 2) (hn : e.at_.length = n) :
    Calls Try.prog 66 #[evV e (.slice a n c)] w fun r w' => r = .returned (.bool (fldB e)) ∧ Below w.heap.size w w' := by
  obtain ⟨k, ⟨n1, n2⟩, at_, tx⟩ := e
  simp only at hk hn
  subst hk
  have hf : fldB ⟨2, (n1, n2), at_, tx⟩ = (emB n1 && emB n2 && decide (n = 0) && !emB tx) := by
    unfold fldB
    rw [if_pos rfl]
    subst hn
    cases at_ <;> rfl
  rw [hf]
  unfold evV
  have hb := fun n => (Below.refl w.heap.size w).alloc (Nat.le_refl _) (.cells #[.int .i8 2, .string n1, .string n2, .slice a n c, .string tx] 30)
  clear hf hn
  go_enter Try.func66, Try.ntmps66
  go_wp2_with fail
  all_goals
    go_ret
    exact ⟨ret_bool (by simp_all [emB]), hb _⟩
set_option maxRecDepth 100000 in
set_option maxHeartbeats 4000000 in
theorem ref16_fields1 (e : Evt) (a : Option Addr) (n c : Nat) (w : World) (hk : e.k = 1) (hn : e.at_.length = n) :
    Calls Try.prog 66 #[evV e (.slice a n c)] w fun r w' => r = .returned (.bool (fldB e)) ∧ Below w.heap.size w w' := by
  obtain ⟨k, ⟨n1, n2⟩, at_, tx⟩ := e
  simp only at hk hn
  subst hk
  have hf : fldB ⟨1, (n1, n2), at_, tx⟩ = (!emB n2 && decide (n = 0) && emB tx) := by
    unfold fldB
    rw [if_neg (by show ¬ (1 : Int) = 2; decide), if_pos rfl]
    subst hn
    cases at_ <;> rfl
  rw [hf]
  unfold evV
  have hb := fun n => (Below.refl w.heap.size w).alloc (Nat.le_refl _) (.cells #[.int .i8 1, .string n1, .string n2, .slice a n c, .string tx] 30)
  clear hf hn
  go_enter Try.func66, Try.ntmps66
  go_wp2_with fail
  all_goals
    go_ret
    exact ⟨ret_bool (by simp_all [emB]), hb _⟩
set_option maxRecDepth 100000 in
set_option maxHeartbeats 4000000 in
theorem ref16_fields3 (e : Evt) (a : Option Addr) (n c : Nat) (w : World) (h0 : e.k ≠ 0) (h1 : e.k ≠ 1) (h2 : e.k ≠ 2) :
    Calls Try.prog 66 #[evV e (.slice a n c)] w fun r w' => r = .returned (.bool (fldB e)) ∧ Below w.heap.size w w' := by
  obtain ⟨k, ⟨n1, n2⟩, at_, tx⟩ := e
  simp only at h0 h1 h2
  have hf : fldB ⟨k, (n1, n2), at_, tx⟩ = false := by
    unfold fldB
    rw [if_neg h2, if_neg h1, if_neg h0]
  rw [hf]
  unfold evV
  have hb := (Below.refl w.heap.size w).alloc (Nat.le_refl _) (.cells #[.int .i8 k, .string n1, .string n2, .slice a n c, .string tx] 30)
  have q0 : (k == 0) = false := by simpa using h0
  have q1 : (k == 1) = false := by simpa using h1
  have q2 : (k == 2) = false := by simpa using h2
  clear hf h0 h1 h2
  go_enter Try.func66, Try.ntmps66
  go_wp2_with fail
  all_goals
    go_ret
    exact ⟨rfl, hb⟩
set_option maxRecDepth 100000 in
set_option maxHeartbeats 8000000 in
theorem ref16_fields0 (B : Nat) (e : Evt) (av : Value) (w : World) (hk : e.k = 0) (hr : CReads B w av e.at_.length (atC e.at_)) (hB : B ≤ w.heap.size) (hl : e.at_.length ≤ 140737488351232) :
    Calls Try.prog 66 #[evV e av] w fun r w' => r = .returned (.bool (fldB e)) ∧ Below w.heap.size w w' := by
  obtain ⟨k, ⟨n1, n2⟩, at_, tx⟩ := e
  simp only at hk hr hl
  subst hk
  have hr0 := hr
  obtain ⟨a, c, rfl, -⟩ := hr0
  obtain ⟨n, hn⟩ : ∃ n, at_.length = n := ⟨_, rfl⟩
  have HN := Lib.hid hn
  rw [hn] at hr hl ⊢
  obtain ⟨A, hA⟩ : ∃ A, attGo [] at_ = A := ⟨_, rfl⟩
  have hf : fldB ⟨0, (n1, n2), at_, tx⟩ = (A && !emB n2 && emB tx) := by
    unfold fldB
    rw [if_neg (by show ¬ (0 : Int) = 2; decide), if_neg (by show ¬ (0 : Int) = 1; decide), if_pos rfl, ← hA]
  rw [hf]
  have HA := Lib.hid (show attGo (atN (at_.take 0)) (at_.drop 0) = A from hA)
  unfold evV
  clear hf hn hA
  have hb := (Below.refl w.heap.size w).alloc (Nat.le_refl _) (.cells #[.int .i8 0, .string n1, .string n2, .slice a n c, .string tx] 30)
  have bX := BlkAt.new w #[.int .i8 0, .string n1, .string n2, .slice a n c, .string tx] 30
  go_enter Try.func66, Try.ntmps66
  go_wp2_with fail
  generalize w.alloc (.cells #[.int .i8 0, .string n1, .string n2, .slice a n c, .string tx] 30) = w1 at bX hb ⊢
  obtain ⟨be, hbe⟩ : ∃ b, w.heap.size = b := ⟨_, rfl⟩
  have HBE := Lib.hid hbe
  rw [hbe] at bX hb hB ⊢
  clear hbe
  go_loopw [3] (fun i wr => ∃ j : Nat, i = .int .i64 j ∧ j ≤ n ∧ Hid (attGo (atN (at_.take j)) (at_.drop j) = A) ∧ BlkAt wr be #[.int .i8 0, .string n1, .string n2, .slice a n c, .string tx] ∧ Below be w wr) (fun i _ => n - (intOf i).toNat)
  case atStart => exact ⟨0, rfl, by omega, HA, bX, hb⟩
  case round =>
    clear HA hb bX
    obtain ⟨j, rfl, hj, HK, bX, hb⟩ := hrel
    have x3 : _ = some (Value.slice a n c) := bX.cell 3 rfl
    have hl2 := bX.lt
    by_cases hlt : j < n
    · have hd := decide_eq_true (show (j : Int) < (n : Int) by omega)
      obtain ⟨x, hx⟩ : ∃ x, at_[j]? = some x := ⟨_, List.getElem?_eq_getElem (by rw [HN.out]; exact hlt)⟩
      have hdr : at_.drop j = x :: at_.drop (j + 1) := by
        obtain ⟨h1, h2⟩ := List.getElem?_eq_some_iff.1 hx
        rw [← h2, List.drop_eq_getElem_cons h1]
      have htk : atN (at_.take (j + 1)) = atN (at_.take j) ++ [x.1] := by
        unfold atN
        rw [List.take_add_one, List.map_append, hx]
        rfl
      obtain ⟨b, off, cap, hv, c0, c1, c2⟩ := hr.attr hb hB j x hx
      cases hv
      have hq := HK.out
      rw [hdr, attGo] at hq
      have HQ := Lib.hid hq
      have HTK := Lib.hid htk
      have HX := Lib.hid hx
      clear hq hdr htk HK hx
      go_wp2_with fail
      go_loopw [4] (fun i wi => ∃ k m : Nat, i = .int .i64 k ∧ k ≤ j ∧ wi = wr.drewN m ∧ Hid (inL x.1 (atN (at_.take k)) = false)) (fun i _ => j - (intOf i).toNat)
      case atStart => exact ⟨0, 0, rfl, by omega, rfl, Lib.hid rfl⟩
      case round =>
        rename_i wo _
        obtain ⟨k, m, rfl, hk, rfl, HI⟩ := hrel
        have hbm := below_dn hb m
        have y3 : (World.drewN _ m).cell? ⟨be, 3, none⟩ = some (Value.slice (some ⟨b, off, none⟩) n c) := x3
        have e0 : (World.drewN _ m).cell? ⟨b, off + j * 3, none⟩ = some (Value.string x.1.1) := c0
        have e1 : (World.drewN _ m).cell? ⟨b, off + j * 3 + 1, none⟩ = some (Value.string x.1.2) := c1
        by_cases hkj : k < j
        · have hd2 := decide_eq_true (show (k : Int) < (j : Int) by omega)
          have hkn : k < n := by omega
          obtain ⟨y, hy⟩ : ∃ y, at_[k]? = some y := ⟨_, List.getElem?_eq_getElem (by rw [HN.out]; omega)⟩
          obtain ⟨b', off', cap', hv', p0, p1, p2⟩ := hr.attr hb hB k y hy
          cases hv'
          have hsn : atN (at_.take (k + 1)) = atN (at_.take k) ++ [y.1] := by
            unfold atN
            rw [List.take_add_one, List.map_append, hy]
            rfl
          by_cases hxy : x.1 = y.1
          · have t1 : (x.1.1.toList == y.1.1.toList) = true := by rw [hxy]; simp
            have t2 : (x.1.2.toList == y.1.2.toList) = true := by rw [hxy]; simp
            have hA : A = false := by
              have hm : inL x.1 (atN (at_.take j)) = true := by
                refine inL_mem ?_
                rw [hxy]
                unfold atN
                refine List.mem_map.2 ⟨y, ?_, rfl⟩
                exact List.mem_of_getElem? (i := k) (by rw [List.getElem?_take_of_lt hkj]; exact hy)
              have := HQ.out
              rw [hm] at this
              simpa using this.symm
            have HA := Lib.hid hA
            clear hr hy hsn hxy hA HQ
            go_wp2_with fail
            go_quiet (fail)
            go_wp2_with fail
            go_ret
            exact ⟨ret_bool (by rw [HA.out]; rfl), by rw [HBE.out]; exact below_dn hbm _⟩
          · have HI2 := Lib.hid (show inL x.1 (atN (at_.take (k + 1))) = false by rw [hsn, inL_snoc, HI.out, decide_eq_false hxy]; rfl)
            have hne : (x.1.1.toList == y.1.1.toList) = false ∨ ((x.1.1.toList == y.1.1.toList) = true ∧ (x.1.2.toList == y.1.2.toList) = false) := by
              by_cases h1 : x.1.1 = y.1.1
              · refine .inr ⟨by rw [h1]; simp, toL_ne fun h2 => hxy (Prod.ext h1 h2)⟩
              · exact .inl (toL_ne h1)
            clear hr hy hsn hxy HQ
            rcases hne with g1 | ⟨g1, g2⟩
            all_goals
              go_wp2_with fail
              go_quiet (fail)
              go_wp2_with fail
              exact ⟨⟨k + 1, m + nq, by go_num, by omega, by simp [World.drewN], HI2⟩, by simp [intOf]; omega⟩
        · have hd2 := decide_eq_false (show ¬ (k : Int) < (j : Int) by omega)
          have hkj2 : k = j := by omega
          subst hkj2
          have hin := HI.out
          have hq := HQ.out
          rw [hin] at hq
          have hbX := bX.below (below_dn (Below.refl _ wr) m) hl2
          cases hem : emB x.1.2 with
          | true =>
            have q1 : (x.1.2.toList == []) = true := by rw [emB_eq]; exact hem
            rw [hem] at hq
            have HA := Lib.hid (show false = A from hq)
            clear hr hq hin hem HQ HTK
            go_wp2_with fail
            go_ret
            exact ⟨ret_bool (by rw [← HA.out]; rfl), by rw [HBE.out]; exact hbm⟩
          | false =>
            have q1 : (x.1.2.toList == []) = false := by rw [emB_eq]; exact hem
            rw [hem] at hq
            have HK2 : Hid (attGo (atN (at_.take (k + 1))) (at_.drop (k + 1)) = A) := Lib.hid (by rw [HTK.out]; simpa using hq)
            clear hr hq hin hem HQ HTK
            go_wp2_with fail
            exact ⟨⟨k + 1, by go_num, by omega, HK2, hbX, hbm⟩, by simp [intOf]; omega⟩
    · have hd := decide_eq_false (show ¬ (j : Int) < (n : Int) by omega)
      rw [List.drop_eq_nil_of_le (by rw [HN.out]; omega)] at HK
      have HQ := Lib.hid (show true = A from HK.out)
      have x2 : _ = some (Value.string n2) := bX.cell 2 rfl
      have x4 : _ = some (Value.string tx) := bX.cell 4 rfl
      clear hr HK
      go_wp2_with fail
      all_goals
        go_ret
        exact ⟨ret_bool (by rw [← HQ.out]; simp_all [emB]), by rw [HBE.out]; exact hb⟩
theorem ref16_fields (B : Nat) (e : Evt) (av : Value) (w : World) (hr : CReads B w av e.at_.length (atC e.at_)) (hB : B ≤ w.heap.size) (hl : e.at_.length ≤ 140737488351232) :
    Calls Try.prog 66 #[evV e av] w fun r w' => r = .returned (.bool (fldB e)) ∧ Below w.heap.size w w' := by
  by_cases h0 : e.k = 0
  · exact ref16_fields0 B e av w h0 hr hB hl
  · obtain ⟨a, c, rfl, -⟩ := hr
    by_cases h1 : e.k = 1
    · exact ref16_fields1 e a _ c w h1 rfl
    · by_cases h2 : e.k = 2
      · exact ref16_fields2 e a _ c w h2 rfl
      · exact ref16_fields3 e a _ c w h0 h1 h2
end Go.Proofs.Yteefopeclfojiaa
