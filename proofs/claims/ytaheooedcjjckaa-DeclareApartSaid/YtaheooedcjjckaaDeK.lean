/-
  Layer 7: the document's Parts, Scan, Same.
-/
import Derived.Test.YtaheooedcjjckaaDeJ
import Derived.Test.YtaheooedcjjckaaDeH
namespace Go.Proofs.Ytaheooedcjjckaa
open Go.RowKit
theorem addr_zero (g j : Nat) : (⟨g, 0, none⟩ : Addr).add j = ⟨g, j, none⟩ := by
  simp only [Addr.add]
  split
  · rename_i h; subst h; rfl
  · simp
theorem dcC_at : ∀ (zs : List (List Int × List Int)) (k : Nat) (h : k < zs.length), (dcC zs)[k * 2]? = some (.string (strOfNums zs[k].1)) ∧ (dcC zs)[k * 2 + 1]? = some (.string (strOfNums zs[k].2))
  | [], _, h => by simp at h
  | z :: r, 0, _ => ⟨rfl, rfl⟩
  | z :: r, k + 1, h => by
    obtain ⟨h1, h2⟩ := dcC_at r k (by simpa using h)
    have e : dcC (z :: r) = Value.string (strOfNums z.1) :: Value.string (strOfNums z.2) :: dcC r := rfl
    rw [e, show (k + 1) * 2 = k * 2 + 1 + 1 by omega]
    simp only [List.getElem?_cons_succ, List.getElem_cons_succ]
    exact ⟨h1, h2⟩
theorem own_form {w : World} {base : Nat} {e : TypeId} {size : Nat} {v : Value} {n : Nat} {xs : List Value} (h : w.ownsRow base e size v n xs) : ∃ a c, v = .slice a n c ∧ (0 < n → ∃ g, a = some ⟨g, 0, none⟩ ∧ ∀ j u, xs[j]? = some u → w.cell? ⟨g, j, none⟩ = some u) := by
  rcases h.2 with ⟨hv, h0⟩ | ⟨g, cap, cur, hv, _⟩
  · exact ⟨_, _, by rw [hv, h0], fun h1 => by omega⟩
  · exact ⟨_, _, hv, fun _ => ⟨g, rfl, fun j u hj => by rw [← addr_zero]; exact h.cells (g := g) (by rw [hv]; rfl) j u hj⟩⟩
theorem insV_of (l : List Int) (hb : isBs l) : nums (insV l).1 = (match insB (l.take 200) with | some x => x | none => []) ∧ partsD l = if (insV l).2 then parT (nums (insV l).1) else [] := by
  unfold insV partsD partsB
  cases e : insB (l.take 200) with
  | none => exact ⟨rfl, rfl⟩
  | some x =>
    have hx : isBs x := by
      unfold insB at e
      split at e
      · cases e2 : endP ((l.take 200).drop 5) with
        | none => rw [e2] at e; cases e
        | some n =>
          rw [e2] at e
          cases e
          exact isBs_takeN (isBs_dropN (isBs_takeN hb _) _) _
      · cases e
    have hn : nums (strOfNums x) = x := nums_strOfNums x hx
    exact ⟨hn, by show parD (x.length + 1) x = parT (nums (strOfNums x)); rw [hn]; rfl⟩
theorem insV_len (s : ByteArray) : (insV (nums s)).1.size ≤ s.size := by
  have h := (insV_of (nums s) (nums_isBs s)).1
  rw [← nums_length, h]
  cases e : insB ((nums s).take 200) with
  | none => simp
  | some x =>
    unfold insB at e
    split at e
    · cases e2 : endP (((nums s).take 200).drop 5) with
      | none => rw [e2] at e; cases e
      | some n =>
        rw [e2] at e
        cases e
        show (List.take n (List.drop 5 (List.take 200 (nums s)))).length ≤ s.size
        rw [List.length_take, List.length_drop, List.length_take, nums_length]
        omega
    · cases e
theorem partsD_len (s : ByteArray) : (partsD (nums s)).length ≤ s.size := by
  have hil := insV_len s
  rw [(insV_of (nums s) (nums_isBs s)).2]
  split
  · have := parT_len _ (nums (insV (nums s)).1) (Nat.le_refl _)
    rw [nums_length] at this
    omega
  · exact Nat.zero_le _
set_option maxHeartbeats 1000000 in
theorem ref07_Parts (s : ByteArray) (hs : s.size ≤ 1000000) (w : World) :
    Calls Try.prog 18 #[.string s] w fun e w' => ∃ v, e = .returned v ∧
      w'.ownsRow w.heap.size 38 2 v (partsD (nums s)).length (dcC (partsD (nums s))) ∧ Below w.heap.size w w' := by
  have hiv := (insV_of (nums s) (nums_isBs s)).2
  have hil := insV_len s
  have HI := Lib.hid (ref07_inside s w hs)
  obtain ⟨T, hT⟩ : ∃ T, (insV (nums s)).1 = T := ⟨_, rfl⟩
  obtain ⟨ok, hok⟩ : ∃ T, (insV (nums s)).2 = T := ⟨_, rfl⟩
  rw [hT, hok] at HI hiv
  rw [hT] at hil
  have HP := Lib.hid (fun (k : Nat) (hk : k ≤ T.size) u => ref07_part T k u (by omega) hk)
  have hN := partsD_len s
  have hIV := Lib.hid hiv
  clear hT hok hiv
  go_enter Try.func18, Try.ntmps18
  go_wp2_with fail
  refine HI.out.mono ?_
  rintro e w' ⟨rfl, rfl⟩
  go_wp2_with fail
  go_loopw [4, 5, 6] (fun o v i wr => ∃ (k : Nat) (done : List (List Int × List Int)) (o2 : Bool), o = .bool o2 ∧ i = .int .i64 k ∧ k ≤ T.size ∧ done.length ≤ s.size ∧ wr.ownsRow w.heap.size 38 2 v done.length (dcC done) ∧ Below w.heap.size w wr ∧
    Hid (partsD (nums s) = if o2 then done ++ parT ((nums T).drop k) else done)) (fun o _ i _ => 2 * (T.size - (intOf i).toNat) + (match o with | .bool true => 1 | _ => 0))
  case atStart => exact ⟨0, [], ok, rfl, rfl, by omega, by simp, World.ownsRow_nil _ _ _ _, Below.refl _ _, Lib.hid (by rw [hIV.out]; cases ok <;> simp)⟩
  case round =>
    obtain ⟨k, done, o2, rfl, rfl, hk, hdl, hrow, hb, HQ⟩ := hrel
    cases o2 with
    | false =>
      have HE := Lib.hid (show partsD (nums s) = done by rw [HQ.out]; rfl)
      go_wp2_with fail
      go_ret
      exact ⟨_, rfl, by rw [HE.out]; exact hrow, hb⟩
    | true =>
      have HE := Lib.hid (show partsD (nums s) = done ++ parT ((nums T).drop k) by rw [HQ.out]; rfl)
      have HPk := Lib.hid (HP.out k hk)
      go_wp2_with fail
      refine (HPk.out _).mono ?_
      rintro e w2 ⟨x, y, j, ok2, rfl, hok2, hj, hjk, hb2, hp2⟩
      have hb2w := bt hb hb2
      have hr2 := own_below hrow hb2 (Nat.le_refl _)
      have hbA := (Below.refl w2.heap.size w2).alloc (Nat.le_refl _) (.cells #[.string x, .string y] 38)
      have hr3 := own_below hr2 hbA (Nat.le_refl _)
      have bk := BlkAt.new w2 #[.string x, .string y] 38
      have s2 : (w2.alloc (.cells #[.string x, .string y] 38)).heap.size = w2.heap.size + 1 := World.size_alloc _ _
      have hb3w := bt hb2w hbA
      obtain ⟨w3, hw3⟩ : ∃ a, w2.alloc (.cells #[.string x, .string y] 38) = a := ⟨_, rfl⟩
      rw [hw3] at hr3 bk s2 hb3w
      have c0 := bk.cell 0 rfl
      have c1 := bk.cell 1 rfl
      cases hp : partD ((nums T).drop k) with
      | none =>
        rw [hp] at hok2
        have hok3 : ok2 = false := hok2
        subst hok3
        obtain rfl := hjk rfl
        have HE2 := Lib.hid (show partsD (nums s) = if false then done ++ parT ((nums T).drop j) else done by rw [HE.out, parT_none hp]; simp)
        clear hok2 hp2 hp
        go_wp2_with fail
        exact ⟨⟨_, done, false, rfl, rfl, hj, hdl, hr3, hb3w, HE2⟩, by simp [intOf]⟩
      | some p =>
        rw [hp] at hok2
        have hok3 : ok2 = true := hok2
        subst hok3
        obtain ⟨h1, h2, h3, _⟩ := hp2 p hp
        have hpe : partsD (nums s) = (done ++ [p.1]) ++ parT ((nums T).drop j) := by rw [HE.out, parT_some hp, h3]; simp
        have hdl2 : done.length + 1 ≤ s.size := by
          have := congrArg List.length hpe
          rw [List.length_append, List.length_append, List.length_singleton] at this
          omega
        have HE2 := Lib.hid (show partsD (nums s) = if true then (done ++ [p.1]) ++ parT ((nums T).drop j) else done ++ [p.1] by rw [hpe]; rfl)
        have hlt := partD_lt hp
        rw [← h3, List.length_drop, List.length_drop, nums_length] at hlt
        obtain ⟨v', w', hrun, hro, hbo, _, _⟩ := app_two w3 w.heap.size _ done.length _ hr3 x y (by omega) hb3w.size
        rw [s2] at hrun
        have HRUN := Lib.hid hrun
        have hro2 : w'.ownsRow w.heap.size 38 2 v' (done ++ [p.1]).length (dcC (done ++ [p.1])) := by
          rw [dcC_snoc, List.length_append, ← h1, ← h2]; exact hro
        clear hok2 hp2 hp hrun hro h1 h2 h3 hpe
        go_wp2_with (at_builtin; refine wpList_append_run rfl _ _ _ _ rfl _ _ rfl rfl _ _ HRUN.out ?_)
        exact ⟨⟨j, done ++ [p.1], true, rfl, rfl, hj, by simp; omega, hro2, hb3w.trans hbo, HE2⟩, by simp [intOf]; omega⟩
set_option maxHeartbeats 1000000 in
theorem ref07_Scan (s : ByteArray) (hs : s.size ≤ 1000000) (w : World) :
    Calls Try.prog 15 #[.string s] w fun e w' => e = .returned (.tuple #[.string (scnV (partsD (nums s))).1, .bool (scnV (partsD (nums s))).2]) ∧ Below w.heap.size w w' := by
  have HP := Lib.hid (ref07_Parts s hs w)
  obtain ⟨zs, hzs⟩ : ∃ zs, partsD (nums s) = zs := ⟨_, rfl⟩
  have hzl := partsD_len s
  rw [hzs] at HP hzl
  rw [hzs]
  clear hzs
  go_enter Try.func15, Try.ntmps15
  go_wp2_with fail
  refine HP.out.mono ?_
  rintro e w1 ⟨v, rfl, hrow, hb⟩
  obtain ⟨a, cap, rfl, hC⟩ := own_form hrow
  clear hrow
  go_wp2_with fail
  go_loop [5] (fun i => ∃ k : Nat, i = .int .i64 k ∧ k ≤ zs.length ∧ Hid (scnV zs = scnV (zs.drop k))) (fun i => zs.length - (intOf i).toNat)
  case atStart => exact ⟨0, rfl, by omega, Lib.hid (by rw [List.drop_zero])⟩
  case round =>
    obtain ⟨k, rfl, hk, HQ⟩ := hrel
    by_cases hlt : k < zs.length
    · obtain ⟨g, rfl, hcc⟩ := hC (by omega)
      obtain ⟨d1, d2⟩ := dcC_at zs k hlt
      have e1 := hcc _ _ d1
      have e2 := hcc _ _ d2
      have hdr : zs.drop k = zs[k] :: zs.drop (k + 1) := List.drop_eq_getElem_cons hlt
      obtain ⟨z, hz⟩ : ∃ z, zs[k] = z := ⟨_, rfl⟩
      rw [hz] at e1 e2 hdr
      obtain ⟨X, hX⟩ : ∃ X, strOfNums z.1 = X := ⟨_, rfl⟩
      rw [hX] at e1
      cases he : encB z with
      | true =>
        have hq : (X.toList == [101, 110, 99, 111, 100, 105, 110, 103]) = true := by rw [← hX]; exact he
        have HE := Lib.hid (show scnV zs = (strOfNums z.2, true) by rw [HQ.out, hdr]; unfold scnV; rw [scanE, if_pos he])
        clear hC hcc d1 d2 hdr hX he hz
        go_wp2_with fail
        go_ret2
        exact ⟨by rw [HE.out] <;> rfl, hb⟩
      | false =>
        have hq : (X.toList == [101, 110, 99, 111, 100, 105, 110, 103]) = false := by rw [← hX]; exact he
        have HE := Lib.hid (show scnV zs = scnV (zs.drop (k + 1)) by
          rw [HQ.out, hdr]
          unfold scnV
          rw [scanE, if_neg (by rw [he]; decide)])
        clear hC hcc d1 d2 hdr hX he hz
        go_wp2_with fail
        exact ⟨⟨k + 1, by go_num, by omega, HE⟩, by simp [intOf]; omega⟩
    · have HE := Lib.hid (show scnV zs = (⟨#[]⟩, false) by rw [HQ.out, List.drop_eq_nil_of_le (by omega)]; rfl)
      clear hC
      go_wp2_with fail
      go_ret2
      exact ⟨by rw [HE.out] <;> rfl, hb⟩
set_option maxHeartbeats 2000000 in
theorem ref07_Same (w : World) (b1 b2 : Nat) (va vb : Value) (zs : List (List Int × List Int)) (h1 : w.ownsRow b1 38 2 va zs.length (dcC zs)) (h2 : w.ownsRow b2 38 2 vb zs.length (dcC zs)) (hz : zs.length < 1000000000) :
    Calls Try.prog 16 #[va, vb] w fun e w' => e = .returned (.bool true) ∧ Below w.heap.size w w' := by
  obtain ⟨a1, cap1, rfl, C1⟩ := own_form h1
  obtain ⟨a2, cap2, rfl, C2⟩ := own_form h2
  clear h1 h2
  go_enter Try.func16, Try.ntmps16
  go_wp2
  go_loopw [5] (fun i wr => ∃ k n : Nat, i = .int .i64 k ∧ k ≤ zs.length ∧ wr = w.drewN n) (fun i _ => zs.length - (intOf i).toNat)
  case atStart => exact ⟨0, 0, rfl, by omega, rfl⟩
  case round =>
    obtain ⟨k, n, rfl, hk, rfl⟩ := hrel
    by_cases hlt : k < zs.length
    · obtain ⟨g1, rfl, D1⟩ := C1 (by omega)
      obtain ⟨g2, rfl, D2⟩ := C2 (by omega)
      obtain ⟨d1, d2⟩ := dcC_at zs k hlt
      have e1 := D1 _ _ d1
      have e2 := D1 _ _ d2
      have e3 := D2 _ _ d1
      have e4 := D2 _ _ d2
      obtain ⟨X, hX⟩ : ∃ X, strOfNums zs[k].1 = X := ⟨_, rfl⟩
      obtain ⟨Y, hY⟩ : ∃ X, strOfNums zs[k].2 = X := ⟨_, rfl⟩
      rw [hX] at e1 e3
      rw [hY] at e2 e4
      have qx : (X.toList != X.toList) = false := by simp
      have qy : (Y.toList != Y.toList) = false := by simp
      clear C1 C2 D1 D2 d1 d2 hX hY
      go_wp2_with fail
      go_quiet (fail)
      go_wp2
      exact ⟨⟨k + 1, n + nq, by go_num, by omega, by simp [World.drewN]⟩, by simp [intOf]; omega⟩
    · go_wp2
      go_ret
      exact ⟨rfl, below_dn (Below.refl _ _) _⟩
end Go.Proofs.Ytaheooedcjjckaa
