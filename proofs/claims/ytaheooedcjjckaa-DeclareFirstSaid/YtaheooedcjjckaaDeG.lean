/-
  Layer 7: the walk of the iterator over a declaration's parts.
-/
import Derived.Test.YtaheooedcjjckaaDeF
import Derived.Test.YtaheooedcjjckaaRg
import Derived.RangeFuncOwn
import Derived.RangeFuncBound
import Derived.RangeFuncCalls
import Derived.RangeFuncLeaves
import Derived.Shelf.Abstract
import Derived.Shelf.RegionOpen
import Derived.OwnWalkIn
import Derived.LoopIn
namespace Go.Proofs.Ytaheooedcjjckaa
open Go.RowKit
attribute [local go_sem] Oper.semAt_some
/-- a part as a value. -/
def pcD (x : List Int × List Int) : Value := .agg #[.string (strOfNums x.1), .string (strOfNums x.2)]
def parT (l : List Int) : List (List Int × List Int) := parD (l.length + 1) l
theorem parT_none {l : List Int} (h : partD l = none) : parT l = [] := by unfold parT; rw [parD, h]
theorem parT_some {l : List Int} {p : (List Int × List Int) × List Int} (h : partD l = some p) : parT l = p.1 :: parT p.2 := by
  have hl := partD_lt h
  unfold parT
  rw [parD, h]
  show _ :: parD l.length p.2 = _
  rw [parD_fuel l.length (p.2.length + 1) p.2 hl (by omega)]
theorem parT_len : ∀ (f : Nat) (l : List Int), l.length ≤ f → (parT l).length ≤ l.length
  | 0, l, h => by
    obtain rfl : l = [] := List.eq_nil_of_length_eq_zero (by omega)
    rw [parT_none rfl]; exact Nat.zero_le _
  | f + 1, l, h => by
    cases e : partD l with
    | none => rw [parT_none e]; exact Nat.zero_le _
    | some p =>
      have hl := partD_lt e
      have := parT_len f p.2 (by omega)
      rw [parT_some e, List.length_cons]; omega
/-- the cutter's block. -/
def MuC : Obj → Prop := fun o => ∃ v m, o = .cells #[v] 60 m
/-- what a round keeps for the iterator: the library's variable, the cutter, the form of a part's variable. -/
structure KeepsDc (W W' : World) : Prop where
  max : ∀ (i : Int), MaxAt W i → MaxAt W' i
  cut : ∀ (k : Nat) (u : Value), Boxed W k 60 u → Boxed W' k 60 u
  two : ∀ (k : Nat) (x y : ByteArray), W.heap[k]? = some (Obj.cells #[Value.string x, Value.string y] 38 (0, 0)) → ∃ x' y' : ByteArray, W'.heap[k]? = some (Obj.cells #[Value.string x', Value.string y'] 38 (0, 0))
theorem KeepsDc.refl (W : World) : KeepsDc W W := ⟨fun _ h => h, fun _ _ h => h, fun _ x y h => ⟨x, y, h⟩⟩
theorem KeepsDc.trans {A B C : World} (h : KeepsDc A B) (k : KeepsDc B C) : KeepsDc A C :=
  ⟨fun _ hm => k.max _ (h.max _ hm), fun _ _ hv => k.cut _ _ (h.cut _ _ hv), fun i x y hi => by obtain ⟨x', y', h'⟩ := h.two i x y hi; exact k.two i x' y' h'⟩
theorem KeepsDc.below {A B : World} (h : Below A.heap.size A B) : KeepsDc A B :=
  ⟨fun _ hm => hm.below h, fun _ _ hk => (h.block _ (Boxed.lt hk)).trans hk, fun k x y hk => ⟨x, y, (h.block k (Array.getElem?_eq_some_iff.1 hk).1).trans hk⟩⟩
theorem KeepsDc.putObj (W : World) (l : Nat) (o o' : Obj) (hW : W.heap[l]? = some o) (hc : o.isCells = false) : KeepsDc W (W.putObj l o') := by
  have far : ∀ (k : Nat) (c : Array Value) (t : TypeId) (m : Nat × Nat), W.heap[k]? = some (Obj.cells c t m) → (W.putObj l o').heap[k]? = some (Obj.cells c t m) := fun k c t m hk => by
    refine ((grownBy_putObj' W l o').block k (Array.getElem?_eq_some_iff.1 hk).1 (fun e => ?_)).trans hk
    injection e with e
    subst e
    rw [hk] at hW
    cases hW
    cases hc
  refine ⟨fun _ hm => ?_, fun _ _ hk => far _ _ _ _ hk, fun k x y hk => ⟨x, y, far _ _ _ _ hk⟩⟩
  exact cell_kept hm (grownBy_putObj' W l o') (fun r e => by cases e; exact ⟨o, hW, hc⟩)
theorem grown_below {w w' : World} (hb : Below w.heap.size w w') (row : Option Nat) : w.grownBy w' row := ⟨hb.os, hb.tape, hb.output, hb.size, fun b hb' _ => hb.block b hb'⟩
theorem strSize_le {l : List Int} {s : ByteArray} (h : l.length ≤ s.size) : (strOfNums l).size ≤ s.size := by rw [strOfNums_size]; exact h
/-- how much of the cutter's text is left. -/
def curLen (w : World) (b : Nat) : Nat := match w.cell? ⟨b, 0, none⟩ with
  | some (.string z) => z.size
  | _ => 0
theorem curLen_of {w : World} {b : Nat} {z : ByteArray} (h : Boxed w b 60 (.string z)) : curLen w b = z.size := by unfold curLen; rw [h.cell]
def okN : Value → Nat
  | .bool true => 1
  | _ => 0
/-- between two rounds. -/
def dLoop (s : ByteArray) (m : Int) (b0 : Nat) (J : List (List Int × List Int) → World → Prop) (p ok : Value) (wr : World) : Prop :=
  ∃ (P : Nat) (done : List (List Int × List Int)) (z x y : ByteArray) (o2 : Bool), p = .pointer (some ⟨P, 0, none⟩) ∧ ok = .bool o2 ∧ Boxed wr b0 60 (.string z) ∧ wr.heap[P]? = some (Obj.cells #[.string x, .string y] 38 (0, 0)) ∧ z.size ≤ s.size ∧ J done wr ∧ MaxAt wr m ∧
    ((o2 = false ∧ partsD (nums s) = done) ∨ (o2 = true ∧ ∃ q : List Int × List Int, x = strOfNums q.1 ∧ y = strOfNums q.2 ∧ partsD (nums s) = done ++ q :: parT (nums z)))
set_option maxRecDepth 100000 in
set_option maxHeartbeats 4000000 in
theorem parts1_in (n : Nat) (hn : 1 ≤ n) (l Bs : Nat) (s : ByteArray) (hs : s.size ≤ 1000000) (J Jx : List (List Int × List Int) → World → Prop) (B0 : Nat) (hab : AbidesM MuC B0 J)
    (hY : ∀ pre x W, J pre W → (pre ++ [x]) <+: partsD (nums s) → pre.length < s.size → YieldAt Fence.wide (n - 1) Try.prog l #[pcD x] W fun e W' =>
      (e = .returned (.bool true) ∧ J (pre ++ [x]) W' ∧ KeepsDc W W') ∨ (e = .returned (.bool false) ∧ Jx (pre ++ [x]) W'))
    (W : World) (m : Int) (hm : MaxAt W m) (hB0 : B0 ≤ W.heap.size) (hBs : W.cell? ⟨Bs, 0, none⟩ = some (.string s)) (h0 : J [] W) :
    CallsIn Fence.wide n Try.prog 28 #[.func (.yield l) #[] #[], .pointer (some ⟨Bs, 0, none⟩)] W fun e W' => (∃ v, e = .returned v) ∧
      (J (partsD (nums s)) W' ∨ (∃ pre, pre <+: partsD (nums s) ∧ Jx pre W')) := by
  refine callsIn_of_wp Try.func28 rfl trivial ?_ rfl
  simp only [Try.ntmps28, List.size_toArray, List.length_cons, List.length_nil, Nat.reduceAdd, Nat.reduceSub, Array.replicate_succ, Array.replicate_zero, List.push_toArray, List.append_toArray, List.nil_append, List.cons_append]
  obtain ⟨b, hb⟩ : ∃ b, s.extract 0 (min (s.size : Int) 200).toNat = b := ⟨_, rfl⟩
  have nb : nums b = (nums s).take 200 := by
    rw [← hb, nums_extD, List.drop_zero, Nat.sub_zero]
    have e : (min (s.size : Int) 200).toNat = min s.size 200 := by omega
    rw [e]
    by_cases h : s.size ≤ 200
    · rw [Nat.min_eq_left h, List.take_of_length_le (by rw [nums_length]; omega), List.take_of_length_le (by rw [nums_length]; omega)]
    · rw [Nat.min_eq_right (by omega)]
  have hPD : partsD (nums s) = partsB (nums b) := by rw [nb]; rfl
  obtain ⟨T, hT⟩ : ∃ T : ByteArray, (⟨(Lib.trimPrefix b.data.toList (⟨#[60, 63, 120, 109, 108]⟩ : ByteArray).data.toList).toArray⟩ : ByteArray) = T := ⟨_, rfl⟩
  obtain ⟨ok, hok⟩ : ∃ v, Lib.hasPrefix b.data.toList (⟨#[60, 63, 120, 109, 108]⟩ : ByteArray).data.toList = v := ⟨_, rfl⟩
  have HCP := Lib.hid (fun u => by have h := Try.strings_CutPrefix b ⟨#[60, 63, 120, 109, 108]⟩ u; rw [hT, hok] at h; exact h.mono (R' := fun e w' => e = .returned (.tuple #[.string T, .bool ok]) ∧ u = w') fun _ _ ⟨h1, h2⟩ => ⟨h1, h2.symm⟩)
  have lb : b.size ≤ s.size := by rw [← nums_length, nb, List.length_take, nums_length]; omega
  have lT : T.size ≤ s.size := by
    refine Nat.le_trans ?_ lb
    rw [← hT, ← nums_length, ← nums_length, numsL_mk]
    unfold Lib.trimPrefix numsL nums
    split <;> simp
  have hpx : ok = [60, 63, 120, 109, 108].isPrefixOf (nums b) := by rw [← hok]; exact preB_nums b ⟨#[60, 63, 120, 109, 108]⟩
  obtain ⟨o, ho⟩ : ∃ o, endP (nums T) = o := ⟨_, rfl⟩
  have hcut := cut_pos T.data.toList [63, 62] o (by rw [idx_end, numsL_of, ho])
  obtain ⟨C1, hC1⟩ : ∃ x : ByteArray, (⟨(cutO T.data.toList 2 o).1.toArray⟩ : ByteArray) = x := ⟨_, rfl⟩
  obtain ⟨C2, hC2⟩ : ∃ x : ByteArray, (⟨(cutO T.data.toList 2 o).2.1.toArray⟩ : ByteArray) = x := ⟨_, rfl⟩
  have hc3 : (cutO T.data.toList 2 o).2.2 = o.isSome := by cases o <;> rfl
  have HCUT := Lib.hid (fun (u : World) (hmu : MaxAt u m) => by
    have h := Try.strings_Cut T ⟨#[63, 62]⟩ m u (by omega) hmu
    rw [show Lib.cut T.data.toList (⟨#[63, 62]⟩ : ByteArray).data.toList = cutO T.data.toList 2 o from hcut, hC1, hC2, hc3] at h
    exact h)
  have hdr : ∀ (u : World) (k : Nat) ys, J ys u → J ys (u.drewN k) := fun u k ys h => hab ys u _ none h (grown_below (below_dn (Below.refl _ _) k) none) (fun r e => by cases e)
  cases hokv : ok with
  | false =>
    have HE := Lib.hid (show partsD (nums s) = [] by
      rw [hPD]
      unfold partsB insB
      rw [hokv] at hpx
      rw [← hpx]
      simp)
    rw [hokv] at HCP
    clear hpx hPD nb hT hok hC1 hC2 hcut hc3 lb hY hokv
    gi_wp2_with fail
    refine ⟨trivial, (callsIn_wide.2 (HCP.out _)).mono ?_⟩
    rintro e w' ⟨rfl, rfl⟩
    gi_wp2_with fail
    refine ⟨trivial, (callsIn_wide.2 (HCUT.out _ hm)).mono ?_⟩
    rintro e w' ⟨rfl, k, rfl⟩
    gi_wp2_with fail
    refine ⟨trivial, ?_⟩
    apply_assumption -exfalso -symm
    gi_wp2_with fail
    refine bodyPost_ret (results_none rfl _ _ _) rfl ?_
    exact ⟨⟨_, rfl⟩, .inl (by rw [HE.out]; exact hdr _ _ _ h0)⟩
  | true =>
    rw [hokv] at HCP hpx hok
    have nT : nums T = (nums b).drop 5 := by
      rw [← hT, numsL_mk]
      unfold Lib.trimPrefix
      rw [if_pos hok, numsL_drop, numsL_of]; rfl
    have hins : insB (nums b) = if (nums T).head?.map whN = some true then o.map ((nums T).take ·) else none := by
      unfold insB
      rw [← nT, ← hpx, ho]
      simp
    clear hok hT
    cases o with
    | none =>
      have HE := Lib.hid (show partsD (nums s) = [] by
        rw [hPD]
        unfold partsB
        rw [hins]
        split
        · rfl
        · rename_i s h
          split at h <;> cases h)
      clear hpx hPD nb hins hC1 hC2 hcut hc3 lb hY hokv nT ho
      gi_wp2_with fail
      refine ⟨trivial, (callsIn_wide.2 (HCP.out _)).mono ?_⟩
      rintro e w' ⟨rfl, rfl⟩
      gi_wp2_with fail
      refine ⟨trivial, (callsIn_wide.2 (HCUT.out _ hm)).mono ?_⟩
      rintro e w' ⟨rfl, k, rfl⟩
      gi_wp2_with fail
      refine ⟨trivial, ?_⟩
      apply_assumption -exfalso -symm
      gi_wp2_with fail
      refine bodyPost_ret (results_none rfl _ _ _) rfl ?_
      exact ⟨⟨_, rfl⟩, .inl (by rw [HE.out]; exact hdr _ _ _ h0)⟩
    | some i =>
      have hil := endP_lt _ _ ho
      rw [nums_length] at hil
      have zT : 0 < T.size := by omega
      obtain ⟨c, t, hct⟩ : ∃ c t, nums T = c :: t := by
        cases h : nums T with
        | nil => have := nums_length T; rw [h] at this; simp at this; omega
        | cons c t => exact ⟨c, t, rfl⟩
      have eT := empty_iff T
      rw [hct, decide_eq_false (by simp)] at eT
      have hc5 : (T[0].toNat : Int) = c := by
        have h := nums_drop T 0 zT
        rw [List.drop_zero, hct] at h
        injection h with h1 h2
        exact h1.symm
      have hix := index_str T 0 zT c 0 hc5 rfl
      have zT' : (0 : Int) < (T.size : Int) := by omega
      rw [hct, List.head?_cons, Option.map_some] at hins
      cases hwc : whN c with
      | false =>
        have HE := Lib.hid (show partsD (nums s) = [] by
          rw [hPD]
          unfold partsB
          rw [hins, hwc]
          rfl)
        have HW := Lib.hid (fun u => by have h := declare_white c u; rw [hwc] at h; exact h)
        clear hpx hPD nb hins hC1 hC2 hcut hc3 lb hY hokv nT ho hct hc5 hwc
        gi_wp2_with fail
        refine ⟨trivial, (callsIn_wide.2 (HCP.out _)).mono ?_⟩
        rintro e w' ⟨rfl, rfl⟩
        gi_wp2_with fail
        refine ⟨trivial, (callsIn_wide.2 (HCUT.out _ hm)).mono ?_⟩
        rintro e w' ⟨rfl, k, rfl⟩
        gi_wp2_with fail
        refine ⟨trivial, (callsIn_wide.2 (HW.out _)).mono ?_⟩
        rintro e w' ⟨rfl, rfl⟩
        gi_wp2_with fail
        refine bodyPost_ret (results_none rfl _ _ _) rfl ?_
        exact ⟨⟨_, rfl⟩, .inl (by rw [HE.out]; exact hdr _ _ _ h0)⟩
      | true =>
        have HW := Lib.hid (fun u => by have h := declare_white c u; rw [hwc] at h; exact h)
        have nC1 : nums C1 = (nums T).take i := by rw [← hC1, numsL_mk]; show numsL (T.data.toList.take i) = _; rw [numsL_take, numsL_of]
        have lC1 : C1.size ≤ s.size := by refine Nat.le_trans ?_ lT; rw [← nums_length, ← nums_length, nC1, List.length_take]; omega
        have HPD := Lib.hid (show partsD (nums s) = parT (nums C1) by
          rw [hPD]
          unfold partsB
          rw [hins, hwc, if_pos rfl, nC1, hct]
          rfl)
        have hN := parT_len _ (nums C1) (Nat.le_refl _)
        rw [nums_length] at hN
        clear hpx hPD nb hins hC1 hC2 hcut hc3 lb hokv nT ho hct hc5 hwc nC1
        gi_wp2_with fail
        refine ⟨trivial, (callsIn_wide.2 (HCP.out _)).mono ?_⟩
        rintro e w' ⟨rfl, rfl⟩
        gi_wp2_with fail
        refine ⟨trivial, (callsIn_wide.2 (HCUT.out _ hm)).mono ?_⟩
        rintro e w' ⟨rfl, k, rfl⟩
        gi_wp2_with fail
        refine ⟨trivial, (callsIn_wide.2 (HW.out _)).mono ?_⟩
        rintro e w' ⟨rfl, rfl⟩
        gi_wp2_with fail
        obtain ⟨b0, hb0⟩ : ∃ x, W.heap.size = x := ⟨_, rfl⟩
        have bx1 := Boxed.new (W.drewN k) 60 (.string C1)
        have hb1 := (below_dn (Below.refl W.heap.size W) k).alloc (Nat.le_refl _) (.cells #[.string C1] 60)
        have j1 := hab _ _ _ none h0 (grown_below hb1 none) (fun r e => by cases e)
        have m1 := hm.below hb1
        obtain ⟨W1, hW1⟩ : ∃ x, (W.drewN k).alloc (.cells #[.string C1] 60) = x := ⟨_, rfl⟩
        rw [hW1] at bx1 hb1 j1 m1
        rw [show (W.drewN k).heap.size = b0 from hb0] at bx1
        rw [hb0] at hB0
        rw [hb0, hW1]
        have HP := Lib.hid (fun (Z : ByteArray) (u : World) (hu : MaxAt u m) (hz : Z.size ≤ s.size) (hx : Boxed u b0 60 (.string Z)) => cutter_part b0 Z u m hu (by omega) hx)
        have HJP := Lib.hid (fun (u v : World) (Z : ByteArray) ys (hu : MaxAt u m) (hx : Boxed u b0 60 (.string Z)) (hg : u.grownBy v (some b0)) (hj : J ys u) =>
          (⟨hab ys u v (some b0) hj hg (fun r e => by cases e; exact ⟨hB0, _, hx, .inr ⟨_, _, rfl⟩⟩), hu.grown (cs := #[]) ⟨_, hx⟩ hg⟩ : J ys v ∧ MaxAt v m))
        refine ⟨trivial, (callsIn_wide.2 (HP.out C1 W1 m1 lC1 bx1)).mono ?_⟩
        rintro e W2 ⟨x, y, z, ok2, rfl, hok2, bx2, hg2, hz2, hp2⟩
        obtain ⟨j2, m2⟩ := HJP.out _ _ _ _ m1 bx1 hg2 j1
        have lz2 : z.size ≤ s.size := by omega
        have HO := Lib.hid (show (ok2 = false ∧ partsD (nums s) = []) ∨ (ok2 = true ∧ ∃ q : List Int × List Int, x = strOfNums q.1 ∧ y = strOfNums q.2 ∧ partsD (nums s) = [] ++ q :: parT (nums z)) by
          rw [HPD.out, hok2]
          cases h : partD (nums C1) with
          | none => exact .inl ⟨rfl, parT_none h⟩
          | some p =>
            obtain ⟨h1, h2, h3⟩ := hp2 p h
            exact .inr ⟨rfl, p.1, h1, h2, by rw [parT_some h, h3]; rfl⟩)
        clear hok2 hp2
        have bP := BlkAt.new W2 #[.string ⟨#[]⟩, .string ⟨#[]⟩] 38
        have lb0 := Boxed.lt bx2
        gi_wp2_with fail
        have hbA := (Below.refl W2.heap.size W2).alloc (Nat.le_refl _) (.cells #[.string x, .string y] 38)
        gi_loopw [9, 10] (fun p ok wr => dLoop s m b0 J p ok wr) (fun _ ok wr => 2 * curLen wr b0 + okN ok)
        case atStart => exact ⟨_, [], z, x, y, ok2, rfl, rfl, Boxed.alloc bx2 _, heap_alloc_new W2 _, lz2, hab _ _ _ none j2 (grown_below hbA none) (fun r e => by cases e), m2.below hbA, HO.out⟩
        case round =>
          obtain ⟨P, done, z, x, y, o2, rfl, rfl, bx, hP, lz, j, mm, hO⟩ := hrel
          rcases hO with ⟨rfl, hd⟩ | ⟨rfl, q, rfl, rfl, hd⟩
          · have HD := Lib.hid hd
            clear hd
            gi_wp2_with fail
            refine ⟨fun f h => (by cases h), ?_⟩
            apply_assumption -exfalso -symm
            gi_wp2_with fail
            go_end0
            exact ⟨⟨_, rfl⟩, .inl (by rw [HD.out]; exact j)⟩
          · have hlen : done.length < s.size := by
              have h1 := congrArg List.length hd
              rw [HPD.out, List.length_append, List.length_cons] at h1
              omega
            have HD := Lib.hid hd
            have hYW : YieldAt Fence.wide (n - 1) Try.prog l #[.agg #[.string (strOfNums q.1), .string (strOfNums q.2)]] wr fun e W' =>
                (e = .returned (.bool true) ∧ J (done ++ [q]) W' ∧ KeepsDc wr W') ∨ (e = .returned (.bool false) ∧ Jx (done ++ [q]) W') := hY done q wr j ⟨parT (nums z), by rw [hd]; simp⟩ hlen
            obtain ⟨fn, tmps, assign, body, hy, hR2⟩ := hYW
            have c0 : wr.cell? ⟨P, 0, none⟩ = some (.string (strOfNums q.1)) := by rw [cell_of_row wr _ 0 _ _ _ hP]; rfl
            have c1 : wr.cell? ⟨P, 1, none⟩ = some (.string (strOfNums q.2)) := by rw [cell_of_row wr _ 1 _ _ _ hP]; rfl
            clear hd
            gi_wp2
            refine hR2.mono ?_
            rintro e W3 (⟨rfl, hJ3, hk3⟩ | ⟨rfl, hJx3⟩)
            · have bx3 := hk3.cut _ _ bx
              have m3 := hk3.max _ mm
              obtain ⟨x', y', hP3⟩ := hk3.two _ _ _ hP
              have d0 : W3.cell? ⟨P, 0, none⟩ = some (.string x') := by rw [cell_of_row W3 _ 0 _ _ _ hP3]; rfl
              have d1 : W3.cell? ⟨P, 1, none⟩ = some (.string y') := by rw [cell_of_row W3 _ 1 _ _ _ hP3]; rfl
              clear hP c0 c1 hy hR2 hP3 hk3
              gi_wp2_with fail
              have hb4 := (Below.refl W3.heap.size W3).alloc (Nat.le_refl _) (.cells #[.string x', .string y'] 38)
              have bx4 := Boxed.alloc bx3 (.cells #[.string x', .string y'] 38)
              have m4 := m3.below hb4
              have hP4 := BlkAt.new W3 #[.string x', .string y'] 38
              have hP4t : (W3.alloc (.cells #[.string x', .string y'] 38)).heap[W3.heap.size]? = some (Obj.cells #[.string x', .string y'] 38 (0, 0)) := heap_alloc_new W3 _
              have lt3 := Boxed.lt bx3
              obtain ⟨W4, hW4⟩ : ∃ x, W3.alloc (.cells #[.string x', .string y'] 38) = x := ⟨_, rfl⟩
              have s4 : W4.heap.size = W3.heap.size + 1 := by rw [← hW4, World.size_alloc]
              rw [hW4] at hb4 bx4 m4 hP4 hP4t
              rw [hW4]
              refine ⟨trivial, (callsIn_wide.2 (HP.out z W4 m4 lz bx4)).mono ?_⟩
              rintro e W5 ⟨x2, y2, z2, ok2, rfl, hok2, bx5, hg5, hz5, hp5⟩
              have m5 := m4.grown (cs := #[]) ⟨_, bx4⟩ hg5
              have hP5 : W5.heap[W3.heap.size]? = some (Obj.cells #[.string x', .string y'] 38 (0, 0)) := (hg5.block _ (by omega) (fun e => by injection e with e; omega)).trans hP4t
              have c0 : W5.cell? ⟨W3.heap.size, 0, none⟩ = some (.string x') := by rw [cell_of_row W5 _ 0 _ _ _ hP5]; rfl
              have c1 : W5.cell? ⟨W3.heap.size, 1, none⟩ = some (.string y') := by rw [cell_of_row W5 _ 1 _ _ _ hP5]; rfl
              have f0 : W5.frozen? ⟨W3.heap.size, 0, none⟩ = false := by simp [World.frozen?, hP5]
              have f1 : W5.frozen? ⟨W3.heap.size, 1, none⟩ = false := by simp [World.frozen?, hP5]
              have HO2 := Lib.hid (show (ok2 = false ∧ partsD (nums s) = done ++ [q]) ∨ (ok2 = true ∧ ∃ q2 : List Int × List Int, x2 = strOfNums q2.1 ∧ y2 = strOfNums q2.2 ∧ partsD (nums s) = (done ++ [q]) ++ q2 :: parT (nums z2)) by
                rw [HD.out, hok2]
                cases h : partD (nums z) with
                | none => exact .inl ⟨rfl, by rw [parT_none h]⟩
                | some p =>
                  obtain ⟨h1, h2, h3⟩ := hp5 p h
                  exact .inr ⟨rfl, p.1, h1, h2, by rw [parT_some h, h3]; simp⟩)
              have hms : 2 * z2.size + okN (.bool ok2) < 2 * z.size + 1 := by
                rw [hok2]
                cases h : partD (nums z) with
                | none => show 2 * z2.size + 0 < _; omega
                | some p =>
                  obtain ⟨_, _, h3⟩ := hp5 p h
                  have := partD_lt h
                  rw [← h3, nums_length, nums_length] at this
                  show 2 * z2.size + 1 < _
                  omega
              have hgw : W3.grownBy ((W5.setCell ⟨W3.heap.size, 0, none⟩ (.string x2)).setCell ⟨W3.heap.size, 1, none⟩ (.string y2)) (some b0) :=
                ⟨hg5.os.trans hb4.os, hg5.tape.trans hb4.tape, hg5.output.trans hb4.output, by have := hg5.size; simp; omega, fun k hk hne => by
                  rw [heap_setCell_other _ ⟨W3.heap.size, 1, none⟩ k _ (by show k ≠ W3.heap.size; omega), heap_setCell_other _ ⟨W3.heap.size, 0, none⟩ k _ (by show k ≠ W3.heap.size; omega)]
                  exact (hg5.block k (by omega) hne).trans (hb4.block k hk)⟩
              have j6 := hab _ _ _ (some b0) hJ3 hgw (fun r e => by cases e; exact ⟨hB0, _, bx3, .inr ⟨_, _, rfl⟩⟩)
              have m6 := m3.grown (cs := #[]) ⟨_, bx3⟩ hgw
              have bx6 : Boxed ((W5.setCell ⟨W3.heap.size, 0, none⟩ (.string x2)).setCell ⟨W3.heap.size, 1, none⟩ (.string y2)) b0 60 (.string z2) := by
                unfold Boxed
                rw [heap_setCell_other _ ⟨W3.heap.size, 1, none⟩ b0 _ (by show b0 ≠ W3.heap.size; omega), heap_setCell_other _ ⟨W3.heap.size, 0, none⟩ b0 _ (by show b0 ≠ W3.heap.size; omega)]
                exact bx5
              have hP6 : ((W5.setCell ⟨W3.heap.size, 0, none⟩ (.string x2)).setCell ⟨W3.heap.size, 1, none⟩ (.string y2)).heap[W3.heap.size]? = some (Obj.cells #[.string x2, .string y2] 38 (0, 0)) := by
                rw [heap_setCell_same _ _ _ _ _ _ (heap_setCell_same _ _ _ _ _ _ hP5)]; rfl
              have lz2 : z2.size ≤ s.size := by omega
              clear hok2 hp5 hP5 hP4 hP4t hg5 hgw bx3 m3 hJ3
              gi_wp2_with fail
              go_roundw
              case rel => exact ⟨W3.heap.size, done ++ [q], z2, x2, y2, ok2, rfl, rfl, bx6, hP6, lz2, j6, m6, HO2.out⟩
              case measure =>
                rw [curLen_of bx6, curLen_of bx]
                exact hms
            · gi_wp2
              go_end0
              exact ⟨⟨_, rfl⟩, .inr ⟨done ++ [q], ⟨parT (nums z), by rw [HD.out]; simp⟩, hJx3⟩⟩
theorem parts1_stops (n : Nat) (hn : 1 ≤ n) (Bs : Nat) (s : ByteArray) (hs : s.size ≤ 1000000) (w : World) (hBs : Bs < w.heap.size) (hc : w.cell? ⟨Bs, 0, none⟩ = some (.string s)) (m : Int) (hm : MaxAt w m) :
    SeqStopsM MuC Fence.wide n Try.prog 28 #[.pointer (some ⟨Bs, 0, none⟩)] (fun x : List Int × List Int => #[pcD x]) KeepsDc (fun ys => ys = partsD (nums s)) (fun pre => pre <+: partsD (nums s)) s.size w := fun l J Jx W hW hJ _ hY h0 => by
  refine (parts1_in n hn l Bs s hs J Jx W.heap.size hJ (fun pre x W1 hj _ hl => hY pre x W1 hj hl) W m (hm.below hW) (Nat.le_refl _) ((hW.cell (p := ⟨Bs, 0, none⟩) hBs).trans hc) h0).mono ?_
  rintro e W' ⟨hv, h | h⟩
  · exact ⟨hv, .inl ⟨_, rfl, h⟩⟩
  · exact ⟨hv, .inr h⟩
end Go.Proofs.Ytaheooedcjjckaa
