/-
  ints; Utf16Turned.
-/
import Derived.Test.YtppabccedmdajaaUtN
import Derived.BigQuiet
import Derived.Deep.RegionLaw
namespace Go.Proofs.Ytppabccedmdajaa
open Go.RowKit
theorem turn_app : ∀ (l m : List Int), l.length % 2 = 0 → turn (l ++ m) = turn l ++ turn m
  | [], _, _ => rfl
  | [_], _, h => by simp at h
  | x :: y :: r, m, h => by
    simp only [List.length_cons] at h
    show y :: x :: turn (r ++ m) = _
    rw [turn_app r m (by omega)]
    rfl
theorem step_app_run {P : Program} {ops : Array Oper} {o : Oper} {a : Act} {w : World} {K : Act → World → Prop} {Q : Exit → Act → World → Prop} {E : Prop} (hgd : o.guard = none) (s x : Operand) (t tx : TypeId)
    (ho : o.op = .call { callee := .builtin .append, args := #[s, x], argTypes := #[t, tx] }) (v xv : Value) (hs : a.eval s = v) (hx : a.eval x = xv) (v' : Value) (w' : World)
    (hr : (Builtin.append_ #[t, tx] o.type #[v, xv]).run P w = .ok v' w') (hK : K (a.put o.dst v') w') :
    if Region.wanted o (yielded ops a.tmps) = true then Oper.wp P o a w K Q else E := by
  have hw : Region.wanted o (yielded ops a.tmps) = true := by simp [Region.wanted, hgd]
  rw [if_pos hw]
  unfold Oper.wp execOp
  simp only [ho, resolve, invoke, builtin, Sem.run_bind, Sem.run_pure, Result.andThen_ok, List.map_toArray, List.map_cons, List.map_nil, hs, hx, hr]
  exact hK
theorem dec_len' (big : Bool) (l : List Int) : (dW big 0 l).1.length ≤ l.length ∧ (dW big 0 l).2.length ≤ l.length := dec_len big _ 0 l
set_option maxRecDepth 100000 in
theorem law03_ints (B : Nat) (v v' : Value) (xs : List Int) (w : World) (h : Reads B w v (xs.map (Value.int .i64))) (h' : Reads B w v' (xs.map (Value.int .i64))) (hB : B ≤ w.heap.size) (hn : xs.length ≤ 1000000) :
    Calls Try.prog 10 #[v, v'] w fun e w' => e = .returned (.bool true) ∧ Below w.heap.size w w' := by
  obtain ⟨a, c, rfl, -, hc⟩ := h.open
  obtain ⟨a', c', rfl, -, hc'⟩ := h'.open
  clear h h'
  have hne : ((xs.length : Int) != (xs.length : Int)) = false := by simp
  go_enter Try.func10, Try.ntmps10
  go_wp2_with fail
  go_loopw [13] (fun i wr => ∃ k : Nat, i = .int .i64 k ∧ k ≤ xs.length ∧ Below w.heap.size w wr) (fun i _ => xs.length - (intOf i).toNat)
  case atStart => exact ⟨0, rfl, by omega, Below.refl _ _⟩
  case round =>
    obtain ⟨k, rfl, hk, hb⟩ := hrel
    by_cases hlt : k < xs.length
    · obtain ⟨b1, o1, rfl, hb1, hcx⟩ := hc k hlt
      obtain ⟨b2, o2, rfl, hb2, hcy⟩ := hc' k hlt
      have hx1 := (hb.cell (p := ⟨b1, o1 + k, none⟩) (Nat.lt_of_lt_of_le hb1 hB)).trans hcx
      have hx2 := (hb.cell (p := ⟨b2, o2 + k, none⟩) (Nat.lt_of_lt_of_le hb2 hB)).trans hcy
      obtain ⟨x, hx⟩ : ∃ x, xs[k] = x := ⟨_, rfl⟩
      rw [hx] at hx1 hx2
      have hki : (k : Int) < (xs.length : Int) := by omega
      have hxx : (x != x) = false := by simp
      clear hc hc' hcx hcy hx
      go_wp2_with fail
      go_quiet (fail)
      go_wp2_with fail
      exact ⟨⟨k + 1, by go_num, by omega, below_dn hb _⟩, by simp [intOf]; omega⟩
    · clear hc hc'
      go_wp2_with fail
      go_ret
      exact ⟨rfl, hb⟩
set_option maxRecDepth 100000 in
set_option maxHeartbeats 4000000 in
theorem law_Utf16Turned (s : ByteArray) (big : Bool) (w : World) (hs : s.size ≤ 140737488351232) : Calls Try.prog 3 #[.string s, .bool big] w fun e w' => e = .returned (.bool true) ∧ Below w.heap.size w w' := by
  by_cases h1 : 2000 < s.size
  · have d1 := decide_eq_true (show (2000 : Int) < (s.size : Int) by omega)
    go_enter Try.func3, Try.ntmps3
    go_wp2_with fail
    refine (law03_wakes _).mono ?_
    rintro e w1 ⟨rfl, hb⟩
    go_wp2_with fail
    go_ret
    exact ⟨rfl, hb⟩
  · have d1 := decide_eq_false (show ¬ (2000 : Int) < (s.size : Int) by omega)
    have t1 : (s.size : Int).tmod 2 = (s.size : Int) % 2 := Int.tmod_eq_emod_of_nonneg (by omega)
    by_cases h2 : s.size % 2 = 0
    · have e0 : (s.size : Int) % 2 = 0 := by omega
      rw [e0] at t1
      have hdt := dW_turn big 0 (nums s) (by rw [nums_length]; exact h2)
      obtain ⟨D, hD⟩ : ∃ D, dW big 0 (nums s) = D := ⟨_, rfl⟩
      have D1 := fun w => utf16_Decode big s w (by omega)
      have hT : isBs (turn (nums s)) := by
        have key : ∀ l : List Int, isBs l → isBs (turn l) := by
          intro l
          induction l using turn.induct with
          | case1 x y r ih =>
            intro h z hz
            simp only [turn, List.mem_cons] at hz
            rcases hz with rfl | rfl | hz
            · exact h _ (by simp)
            · exact h _ (by simp)
            · exact ih (fun z hz => h z (by simp [hz])) z hz
          | case2 l hl =>
            intro h z hz
            refine h z ?_
            rw [turn] at hz
            · exact hz
            · exact hl
        exact key _ (nums_isBs s)
      obtain ⟨X, hX⟩ : ∃ X, strOfNums (turn (nums s)) = X := ⟨_, rfl⟩
      have hnX : nums X = turn (nums s) := by rw [← hX]; exact nums_strOfNums _ hT
      have hXs : X.size = s.size := by rw [← hX, strOfNums_size, turn_len, nums_length]
      have D2 := fun w => utf16_Decode (!big) X w (by omega)
      simp only [hnX, hdt, hD] at D2
      simp only [hD] at D1
      have hln := (dec_len' big (nums s)).2
      rw [hD, nums_length] at hln
      obtain ⟨S, hS⟩ : ∃ S, textS D.1 = S := ⟨_, rfl⟩
      simp only [hS] at D1 D2
      obtain ⟨d1', bad⟩ := D
      simp only at D1 D2 hln
      have e1 : (S.toList == S.toList) = true := by simp
      have hbl : bad.length ≤ 1000000 := by omega
      have HX := Lib.hid hX
      clear hdt hD hT hX hnX hXs hS hln e0
      go_enter Try.func3, Try.ntmps3
      go_wp2_with fail
      go_loopw [5, 6] (fun v i wr => ∃ k : Nat, i = .int .i64 k ∧ k ≤ s.size ∧ k % 2 = 0 ∧ wr.ownsRow w.heap.size 5 1 v (turn ((nums s).take k)).length ((turn ((nums s).take k)).map (Value.int .u8)) ∧ Below w.heap.size w wr) (fun _ i _ => s.size - (intOf i).toNat)
      case atStart => exact ⟨0, rfl, by omega, rfl, World.ownsRow_nil _ _ _ _, Below.refl _ _⟩
      case round =>
        obtain ⟨k, rfl, hk, hk2, hown, hb⟩ := hrel
        by_cases hlt : k < s.size
        · have hlt1 : k + 1 < s.size := by omega
          obtain ⟨x, hx⟩ : ∃ x, s[k].toNat = x := ⟨_, rfl⟩
          obtain ⟨y, hy⟩ : ∃ y, s[k + 1].toNat = y := ⟨_, rfl⟩
          have hi1 := index_str s k hlt (x : Int) k (by rw [hx]) rfl
          have hi2 := index_str s (k + 1) hlt1 (y : Int) ((k : Int) + 1) (by rw [hy]) (by omega)
          have hd1 := nums_drop s k hlt
          have hd2 := nums_drop s (k + 1) hlt1
          have htk : (nums s).take (k + 2) = (nums s).take k ++ [(x : Int), (y : Int)] := by
            rw [List.take_add, hd1, hd2, hx, hy]
            rfl
          have htn : turn ((nums s).take (k + 2)) = turn ((nums s).take k) ++ [(y : Int), (x : Int)] := by
            rw [htk, turn_app _ _ (by rw [List.length_take, nums_length]; omega)]
            rfl
          have hle : (turn ((nums s).take k)).length ≤ 2000 := by rw [turn_len, List.length_take, nums_length]; omega
          obtain ⟨v', w', hr, ho2, hb2⟩ := app_u8_2 wr.drew w.heap.size u5 _ _ hown (y : Int) (x : Int) (by omega) hb.size
          rw [← htn] at ho2
          have hlen2 : (turn ((nums s).take (k + 2))).length = (turn ((nums s).take k)).length + 2 := by rw [htn]; simp
          rw [← hlen2] at ho2
          have HA := Lib.hid hr
          have hwr : IntKind.i64.wrap ((k : Int) + 1) = (k : Int) + 1 := wraps_i64 _ (by omega) (by omega)
          have hlt' := decide_eq_true (show (k : Int) < (s.size : Int) by omega)
          clear hr hd1 hd2 htk htn hx hy hlen2 hown
          go_wp2_with fail
          go_region_law (refine step_app_run rfl _ _ _ _ rfl _ _ rfl rfl _ _ HA.out ?_)
          all_goals
            go_wp2_with fail
            exact ⟨⟨k + 2, by go_num, by omega, by omega, ho2, hb.drew.trans hb2⟩, by simp [intOf]; omega⟩
        · have hke : k = s.size := by omega
          subst hke
          rw [List.take_of_length_le (by rw [nums_length]; omega)] at hown
          have hcv := fun w' (hb' : Below wr.heap.size wr w') => conv_own w' w.heap.size u5 _ _ (own_below hown hb' (Nat.le_refl _))
          rw [HX.out] at hcv
          obtain ⟨va, vl, vc, rfl⟩ := own_slice hown
          clear hown
          go_wp2_with fail
          refine (D1 _).mono ?_
          rintro e w2 ⟨v2, rfl, hr2, hb2⟩
          have hcv2 := hcv _ hb2
          clear hcv
          have hb12 := hb.trans (hb2.mono hb.size)
          have hr2' := hr2.open
          obtain ⟨a2, c2, rfl, -, -⟩ := hr2'
          go_wp2_with fail
          refine (D2 _).mono ?_
          rintro e w3 ⟨v3, rfl, hr3, hb3⟩
          have hb13 := hb12.trans (hb3.mono hb12.size)
          have hr3' := hr3.open
          obtain ⟨a3, c3, rfl, -, -⟩ := hr3'
          go_wp2_with fail
          refine (law03_ints w3.heap.size _ _ bad _ ((hr2.below hb3 (Nat.le_refl _)).mono hb3.size) hr3 (Nat.le_refl _) hbl).mono ?_
          rintro e w4 ⟨rfl, hb4⟩
          have hb14 := hb13.trans (hb4.mono hb13.size)
          go_wp2_with fail
          refine (law03_wakes _).mono ?_
          rintro e w5 ⟨rfl, hb5⟩
          have hb15 := hb14.trans (hb5.mono hb14.size)
          go_wp2_with fail
          go_ret
          exact ⟨rfl, hb15⟩
    · have e0 : (s.size : Int) % 2 = 1 := by omega
      rw [e0] at t1
      go_enter Try.func3, Try.ntmps3
      go_wp2_with fail
      refine (law03_wakes _).mono ?_
      rintro e w1 ⟨rfl, hb⟩
      go_wp2_with fail
      go_ret
      exact ⟨rfl, hb⟩
end Go.Proofs.Ytppabccedmdajaa
