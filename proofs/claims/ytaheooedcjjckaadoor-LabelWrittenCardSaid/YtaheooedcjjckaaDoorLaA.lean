/-
  Layer 5: the walks of All, Name; the document's All, Name.
-/
import Derived.Test.YtaheooedcjjckaaDoorLaP
import Derived.Test.YtaheooedcjjckaaDoorOp
import Derived.Test.YtaheooedcjjckaaDoorTb
import Derived.Test.YtaheooedcjjckaaDoorLib
namespace Go.Proofs.YtaheooedcjjckaaDoor
open Go.RowKit
theorem Reads.texts {B : Nat} {w : World} {v : Value} {ss : List ByteArray} (h : Reads B w v (ss.map Value.string)) :
    ∃ a cap, v = .slice a ss.length cap ∧ ∀ i (_ : i < ss.length), ∃ b off, a = some ⟨b, off, none⟩ ∧ b < B ∧ w.cell? ⟨b, off + i, none⟩ = some (.string ss[i]) := by
  obtain ⟨hl, a, cap, rfl, h⟩ := h
  rw [List.length_map] at hl
  refine ⟨a, cap, by rw [List.length_map], fun i hi => ?_⟩
  rcases h with h | ⟨b, off, rfl, hB, hc⟩
  · rw [List.map_eq_nil_iff] at h; subst h; simp at hi
  · exact ⟨b, off, rfl, hB, by rw [hc i (by rw [List.length_map]; exact hi), List.getElem_map]⟩
theorem labL_len (e : Int) : (labL e).length ≤ 15 := by
  unfold labL
  repeat' split
  all_goals decide
/-- Fields of a text of ASCII that is known. -/
theorem fields_lab (s : ByteArray) (L : List ByteArray) (w : World) (ht : TabAt w) (hs : decide (s.size < 100000) = true) (ha : (s.data.toList.all fun b => decide (b.toNat < 128)) = true) (hL : (Lib.fields s.data.toList).map (fun l => (⟨l.toArray⟩ : ByteArray)) = L) (hl : L.length ≤ 15) :
    Calls Tryd.prog 20 #[.string s] w fun e w' => ∃ v, e = .returned v ∧ Reads w'.heap.size w' v (L.map Value.string) ∧ Below w.heap.size w w' := by
  refine (Tryd.strings_Fields s w (by have := of_decide_eq_true hs; omega) (fun j b hb => by
    have h := List.all_eq_true.1 ha b (List.mem_of_getElem? hb)
    exact of_decide_eq_true h) ht).mono ?_
  rintro e w' ⟨rfl, rfl⟩
  have hlen : (Lib.fields s.data.toList).length = L.length := by rw [← hL, List.length_map]
  refine ⟨_, rfl, ?_, (Below.refl _ w).alloc (Nat.le_refl _) _⟩
  have hr := reads_alloc w ((Lib.fields s.data.toList).map fun l => Value.string ⟨l.toArray⟩).toArray 9 (Lib.fields s.data.toList).length (Lib.fields s.data.toList).length (L.map Value.string)
    (by rw [List.toList_toArray, ← hL, List.map_map]; rfl) (by rw [List.length_map, hlen]) (by rw [hlen]; unfold maxLen; omega)
  rw [World.size_alloc]
  exact hr
set_option maxRecDepth 10000 in
theorem label_All (enc : Int) (w : World) (ht : TabAt w) :
    Calls Tryd.prog 13 #[.int .i8 enc] w fun e w' => ∃ v, e = .returned v ∧ Reads w'.heap.size w' v ((labL enc).map Value.string) ∧ Below w.heap.size w w' := by
  by_cases h0 : enc = 0
  · subst h0
    go_enter Tryd.func13, Tryd.ntmps13
    go_wp2_with fail
    refine (fields_lab _ (labL 0) w ht (by kernel_rfl) (by kernel_rfl) (by kernel_rfl) (by decide)).mono ?_
    rintro e w' ⟨v, rfl, hr, hb⟩
    go_wp2
    go_ret
    exact ⟨_, rfl, hr, hb⟩
  by_cases h1 : enc = 1
  · subst h1
    go_enter Tryd.func13, Tryd.ntmps13
    go_wp2_with fail
    refine (fields_lab _ (labL 1) w ht (by kernel_rfl) (by kernel_rfl) (by kernel_rfl) (by decide)).mono ?_
    rintro e w' ⟨v, rfl, hr, hb⟩
    go_wp2
    go_ret
    exact ⟨_, rfl, hr, hb⟩
  by_cases h2 : enc = 2
  · subst h2
    go_enter Tryd.func13, Tryd.ntmps13
    go_wp2_with fail
    refine (fields_lab _ (labL 2) w ht (by kernel_rfl) (by kernel_rfl) (by kernel_rfl) (by decide)).mono ?_
    rintro e w' ⟨v, rfl, hr, hb⟩
    go_wp2
    go_ret
    exact ⟨_, rfl, hr, hb⟩
  by_cases h3 : enc = 3
  · subst h3
    go_enter Tryd.func13, Tryd.ntmps13
    go_wp2_with fail
    refine (fields_lab _ (labL 3) w ht (by kernel_rfl) (by kernel_rfl) (by kernel_rfl) (by decide)).mono ?_
    rintro e w' ⟨v, rfl, hr, hb⟩
    go_wp2
    go_ret
    exact ⟨_, rfl, hr, hb⟩
  by_cases h4 : enc = 4
  · subst h4
    go_enter Tryd.func13, Tryd.ntmps13
    go_wp2_with fail
    refine (fields_lab _ (labL 4) w ht (by kernel_rfl) (by kernel_rfl) (by kernel_rfl) (by decide)).mono ?_
    rintro e w' ⟨v, rfl, hr, hb⟩
    go_wp2
    go_ret
    exact ⟨_, rfl, hr, hb⟩
  by_cases h5 : enc = 5
  · subst h5
    go_enter Tryd.func13, Tryd.ntmps13
    go_wp2_with fail
    refine (fields_lab _ (labL 5) w ht (by kernel_rfl) (by kernel_rfl) (by kernel_rfl) (by decide)).mono ?_
    rintro e w' ⟨v, rfl, hr, hb⟩
    go_wp2
    go_ret
    exact ⟨_, rfl, hr, hb⟩
  have hL : labL enc = [] := by unfold labL; rw [if_neg h0, if_neg h1, if_neg h2, if_neg h3, if_neg h4, if_neg h5]
  have q0 : (enc == 0) = false := by simpa using h0
  have q1 : (enc == 1) = false := by simpa using h1
  have q2 : (enc == 2) = false := by simpa using h2
  have q3 : (enc == 3) = false := by simpa using h3
  have q4 : (enc == 4) = false := by simpa using h4
  have q5 : (enc == 5) = false := by simpa using h5
  rw [hL]
  clear h0 h1 h2 h3 h4 h5 hL
  go_enter Tryd.func13, Tryd.ntmps13
  go_wp2_with fail
  refine (fields_lab _ [] w ht (by kernel_rfl) (by kernel_rfl) (by kernel_rfl) (by decide)).mono ?_
  rintro e w' ⟨v, rfl, hr, hb⟩
  go_wp2
  go_ret
  exact ⟨_, rfl, hr, hb⟩
set_option maxRecDepth 10000 in
theorem ref05_All (enc : Int) (w : World) :
    Calls Tryd.prog 14 #[.int .i8 enc] w fun e w' => ∃ v, e = .returned v ∧ Reads w'.heap.size w' v ((labL enc).map Value.string) ∧ Below w.heap.size w w' := by
  by_cases h0 : enc = 0
  · subst h0
    go_enter Tryd.func14, Tryd.ntmps14
    go_wp2_with fail
    go_ret
    refine ⟨_, rfl, ?_, (Below.refl _ w).alloc (Nat.le_refl _) _⟩
    have hr := reads_alloc w ((labL 0).map Value.string).toArray 9 5 5 ((labL 0).map Value.string) (by rw [List.toList_toArray]) rfl (by unfold maxLen; omega)
    rw [World.size_alloc]
    exact hr
  by_cases h1 : enc = 1
  · subst h1
    go_enter Tryd.func14, Tryd.ntmps14
    go_wp2_with fail
    go_ret
    refine ⟨_, rfl, ?_, (Below.refl _ w).alloc (Nat.le_refl _) _⟩
    have hr := reads_alloc w ((labL 1).map Value.string).toArray 9 7 7 ((labL 1).map Value.string) (by rw [List.toList_toArray]) rfl (by unfold maxLen; omega)
    rw [World.size_alloc]
    exact hr
  by_cases h2 : enc = 2
  · subst h2
    go_enter Tryd.func14, Tryd.ntmps14
    go_wp2_with fail
    go_ret
    refine ⟨_, rfl, ?_, (Below.refl _ w).alloc (Nat.le_refl _) _⟩
    have hr := reads_alloc w ((labL 2).map Value.string).toArray 9 2 2 ((labL 2).map Value.string) (by rw [List.toList_toArray]) rfl (by unfold maxLen; omega)
    rw [World.size_alloc]
    exact hr
  by_cases h3 : enc = 3
  · subst h3
    go_enter Tryd.func14, Tryd.ntmps14
    go_wp2_with fail
    go_ret
    refine ⟨_, rfl, ?_, (Below.refl _ w).alloc (Nat.le_refl _) _⟩
    have hr := reads_alloc w ((labL 3).map Value.string).toArray 9 15 15 ((labL 3).map Value.string) (by rw [List.toList_toArray]) rfl (by unfold maxLen; omega)
    rw [World.size_alloc]
    exact hr
  by_cases h4 : enc = 4
  · subst h4
    go_enter Tryd.func14, Tryd.ntmps14
    go_wp2_with fail
    go_ret
    refine ⟨_, rfl, ?_, (Below.refl _ w).alloc (Nat.le_refl _) _⟩
    have hr := reads_alloc w ((labL 4).map Value.string).toArray 9 6 6 ((labL 4).map Value.string) (by rw [List.toList_toArray]) rfl (by unfold maxLen; omega)
    rw [World.size_alloc]
    exact hr
  by_cases h5 : enc = 5
  · subst h5
    go_enter Tryd.func14, Tryd.ntmps14
    go_wp2_with fail
    go_ret
    refine ⟨_, rfl, ?_, (Below.refl _ w).alloc (Nat.le_refl _) _⟩
    have hr := reads_alloc w ((labL 5).map Value.string).toArray 9 6 6 ((labL 5).map Value.string) (by rw [List.toList_toArray]) rfl (by unfold maxLen; omega)
    rw [World.size_alloc]
    exact hr
  have hL : labL enc = [] := by unfold labL; rw [if_neg h0, if_neg h1, if_neg h2, if_neg h3, if_neg h4, if_neg h5]
  have q0 : (enc == 0) = false := by simpa using h0
  have q1 : (enc == 1) = false := by simpa using h1
  have q2 : (enc == 2) = false := by simpa using h2
  have q3 : (enc == 3) = false := by simpa using h3
  have q4 : (enc == 4) = false := by simpa using h4
  have q5 : (enc == 5) = false := by simpa using h5
  rw [hL]
  clear h0 h1 h2 h3 h4 h5 hL
  go_enter Tryd.func14, Tryd.ntmps14
  go_wp2_with fail
  go_ret
  exact ⟨_, rfl, ⟨by simp, none, 0, rfl, .inl rfl⟩, Below.refl _ _⟩
theorem namS_nil {enc : Int} (h : (labL enc).length = 0) : namS enc = ⟨#[]⟩ := by unfold namS; rw [List.eq_nil_of_length_eq_zero h]
theorem namS_at {enc : Int} (h : 0 < (labL enc).length) : namS enc = (labL enc)[0] := by
  have e : (labL enc)[0]? = some (namS enc) := by
    unfold namS
    revert h
    generalize labL enc = l
    intro h
    cases l with
    | nil => simp at h
    | cons l r => rfl
  rw [List.getElem?_eq_getElem h] at e
  exact (Option.some.inj e).symm
theorem label_Name (enc : Int) (w : World) (ht : TabAt w) : Calls Tryd.prog 10 #[.int .i8 enc] w fun e w' => e = .returned (.string (namS enc)) ∧ Below w.heap.size w w' := by
  have HA := Lib.hid (label_All enc w ht)
  have hl := labL_len enc
  go_enter Tryd.func10, Tryd.ntmps10
  go_wp2_with fail
  refine HA.out.mono ?_
  rintro e w1 ⟨v, rfl, hr, hb⟩
  obtain ⟨a, cap, rfl, hc⟩ := hr.texts
  clear hr
  by_cases h0 : (labL enc).length = 0
  · have HN := Lib.hid (namS_nil h0)
    rw [h0]
    clear hc h0
    go_wp2_with fail
    go_ret
    exact ⟨ret_str HN.out.symm, hb⟩
  · have hp : 0 < (labL enc).length := by omega
    obtain ⟨b, off, rfl, hbl, hcc⟩ := hc 0 hp
    have HN := Lib.hid (namS_at hp)
    have q0 : (((labL enc).length : Int) == 0) = false := by simpa using h0
    have q1 : (0 : Int) < ((labL enc).length : Int) := by omega
    rw [← HN.out, Nat.add_zero] at hcc
    clear hc
    go_wp2_with fail
    go_ret
    exact ⟨rfl, hb⟩
theorem ref05_Name (enc : Int) (w : World) : Calls Tryd.prog 11 #[.int .i8 enc] w fun e w' => e = .returned (.string (namS enc)) ∧ Below w.heap.size w w' := by
  have HA := Lib.hid (ref05_All enc w)
  have hl := labL_len enc
  go_enter Tryd.func11, Tryd.ntmps11
  go_wp2_with fail
  refine HA.out.mono ?_
  rintro e w1 ⟨v, rfl, hr, hb⟩
  obtain ⟨a, cap, rfl, hc⟩ := hr.texts
  clear hr
  by_cases h0 : (labL enc).length = 0
  · have HN := Lib.hid (namS_nil h0)
    rw [h0]
    clear hc h0
    go_wp2_with fail
    go_ret
    exact ⟨ret_str HN.out.symm, hb⟩
  · have hp : 0 < (labL enc).length := by omega
    obtain ⟨b, off, rfl, hbl, hcc⟩ := hc 0 hp
    have HN := Lib.hid (namS_at hp)
    have q0 : (((labL enc).length : Int) == 0) = false := by simpa using h0
    have q1 : (0 : Int) < ((labL enc).length : Int) := by omega
    rw [← HN.out, Nat.add_zero] at hcc
    clear hc
    go_wp2_with fail
    go_ret
    exact ⟨rfl, hb⟩
end Go.Proofs.YtaheooedcjjckaaDoor
