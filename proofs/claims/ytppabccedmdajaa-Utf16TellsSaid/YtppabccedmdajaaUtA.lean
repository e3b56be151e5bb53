/-
  The walks of units: order.unit, the reference's unit, high, low.
-/
import Derived.Test.YtppabccedmdajaaUtP
import Derived.Test.YtppabccedmdajaaU8D
import Derived.Test.YtppabccedmdajaaSl
import Derived.BigQuiet
namespace Go.Proofs.Ytppabccedmdajaa
open Go.RowKit
theorem wraps_u16 (n : Int) (h₀ : 0 ≤ n) (h₁ : n < 2 ^ 16) : IntKind.u16.wrap n = n := by rw [IntKind.wrap_u16]; omega
theorem u16_or8 (x y : Int) (h0 : 0 ≤ x) (h1 : x < 256) (h3 : 0 ≤ y) (h4 : y < 256) : bits .or .u16 (x * 256) y = x * 256 + y :=
  bits_join .u16 16 (by decide) wraps_u16 8 (x * 256) y (by omega) (by omega) (by omega) h3 h4 (by omega)
theorem ref03_high (u : Int) (w : World) : Calls Try.prog 29 #[.int .i64 u] w fun e w' => e = .returned (.bool (isHi u)) ∧ w = w' := by
  have HH := Lib.hid (show isHi u = (decide (55296 ≤ u) && decide (u ≤ 56319)) by unfold isHi; simp)
  by_cases h1 : 55296 ≤ u
  · have p1 := decide_eq_true h1
    rw [p1, Bool.true_and] at HH
    go_enter Try.func29, Try.ntmps29
    go_wp2
    all_goals (go_ret; exact ⟨by rw [HH.out]; rfl, rfl⟩)
  · have p1 := decide_eq_false h1
    rw [p1, Bool.false_and] at HH
    go_enter Try.func29, Try.ntmps29
    go_wp2
    go_ret
    exact ⟨by rw [HH.out]; rfl, rfl⟩
theorem ref03_low (u : Int) (w : World) : Calls Try.prog 30 #[.int .i64 u] w fun e w' => e = .returned (.bool (isLo u)) ∧ w = w' := by
  have HH := Lib.hid (show isLo u = (decide (56320 ≤ u) && decide (u ≤ 57343)) by unfold isLo; simp)
  by_cases h1 : 56320 ≤ u
  · have p1 := decide_eq_true h1
    rw [p1, Bool.true_and] at HH
    go_enter Try.func30, Try.ntmps30
    go_wp2
    all_goals (go_ret; exact ⟨by rw [HH.out]; rfl, rfl⟩)
  · have p1 := decide_eq_false h1
    rw [p1, Bool.false_and] at HH
    go_enter Try.func30, Try.ntmps30
    go_wp2
    go_ret
    exact ⟨by rw [HH.out]; rfl, rfl⟩
set_option maxRecDepth 100000 in
theorem utf16_unit (big : Bool) (s : ByteArray) (k : Nat) (i : Int) (hik : i = k) (w : World) (h : k + 1 < s.size) (hs : s.size ≤ 1099511627776) (x y : Nat) (hx : s[k].toNat = x) (hy : s[k + 1].toNat = y) (u : Int) (hu : unitN big x y = u) :
    Calls Try.prog 23 #[.bool big, .string s, .int .i64 i] w fun e w' => e = .returned (.int .u16 u) ∧ ∃ m, w' = w.drewN m := by
  subst hik
  subst hu
  have hi1 := index_str s k (by omega) (x : Int) k (by rw [hx]) rfl
  have hi2 := index_str s (k + 1) h (y : Int) ((k : Int) + 1) (by rw [hy]) (by omega)
  have hx256 : x < 256 := by rw [← hx]; exact s[k].toBitVec.isLt
  have hy256 : y < 256 := by rw [← hy]; exact s[k + 1].toBitVec.isLt
  have ho1 := u16_or8 x y (by omega) (by omega) (by omega) (by omega)
  have ho2 := u16_or8 y x (by omega) (by omega) (by omega) (by omega)
  clear hx hy
  cases big
  · go_enter Try.func23, Try.ntmps23
    go_wp2_with fail
    go_quiet (fail)
    go_wp2
    go_ret
    exact ⟨rfl, _, rfl⟩
  · go_enter Try.func23, Try.ntmps23
    go_wp2_with fail
    go_quiet (fail)
    go_wp2
    go_ret
    exact ⟨rfl, _, rfl⟩
set_option maxRecDepth 100000 in
theorem ref03_unit (big : Bool) (s : ByteArray) (k : Nat) (i : Int) (hik : i = k) (w : World) (h : k + 1 < s.size) (hs : s.size ≤ 1099511627776) (x y : Nat) (hx : s[k].toNat = x) (hy : s[k + 1].toNat = y) (u : Int) (hu : unitN big x y = u) :
    Calls Try.prog 28 #[.string s, .int .i64 i, .bool big] w fun e w' => e = .returned (.int .i64 u) ∧ ∃ m, w' = w.drewN m := by
  subst hik
  subst hu
  have hi1 := index_str s k (by omega) (x : Int) k (by rw [hx]) rfl
  have hi2 := index_str s (k + 1) h (y : Int) ((k : Int) + 1) (by rw [hy]) (by omega)
  have hx256 : x < 256 := by rw [← hx]; exact s[k].toBitVec.isLt
  have hy256 : y < 256 := by rw [← hy]; exact s[k + 1].toBitVec.isLt
  clear hx hy
  cases big
  · go_enter Try.func28, Try.ntmps28
    go_wp2_with fail
    go_quiet (fail)
    go_wp2
    go_ret
    exact ⟨rfl, _, rfl⟩
  · go_enter Try.func28, Try.ntmps28
    go_wp2_with fail
    go_quiet (fail)
    go_wp2
    go_ret
    exact ⟨rfl, _, rfl⟩
/-- 'append(out, b0, b1)' of two bytes. -/
theorem app_u8_2 (wr : World) (base : Nat) (v : Value) (n : Nat) (xs : List Int) (hown : wr.ownsRow base 5 1 v n (xs.map (Value.int .u8))) (x y : Int) (hn : n < 1099511627776) (hbase : base ≤ wr.heap.size) :
    ∃ v' w', (Builtin.append_ #[23, 23] 23 #[v, .slice (some ⟨wr.heap.size, 0, none⟩) 2 2]).run Try.prog (wr.alloc (.cells #[.int .u8 x, .int .u8 y] 5)) = .ok v' w' ∧
      w'.ownsRow base 5 1 v' (n + 2) ((xs ++ [x, y]).map (Value.int .u8)) ∧ Below base wr w' := by
  obtain ⟨i0, hi, hz0, hz1, hz2⟩ := info_parts infoU8
  obtain ⟨v', w', h1, h2, h3, h4⟩ := run_append_own (P := Try.prog) (wr.alloc (.cells #[.int .u8 x, .int .u8 y] 5)) base 23 23 5 i0 (.int .u8 0) 1 1 Try.underlying23 hi hz0 hz1 hz2 rfl (by decide) v n _ (hown.alloc _) ⟨wr.heap.size, 0, none⟩ 2 2 [.int .u8 x, .int .u8 y] rfl
    (fun j u hj => by
      match j, hj with
      | 0, hj => simp at hj; subst hj; simp [Addr.add, World.cell?_alloc_mark]
      | 1, hj => simp at hj; subst hj; simp [Addr.add, World.cell?_alloc_mark])
    (fun u hu => by simp at hu; rcases hu with rfl | rfl <;> rfl) (by unfold maxLen; omega) (by omega) (by simp; omega)
  exact ⟨v', w', h1, by simpa using h2, ((Below.refl base wr).alloc hbase _).trans (ownBelow (hown.alloc _) h3 (Nat.le_refl _) (by simp; omega))⟩
set_option maxRecDepth 100000 in
theorem ref03_put (big : Bool) (u : Int) (h0 : 0 ≤ u) (h1 : u < 65536) (base : Nat) (v : Value) (xs : List Int) (w : World) (hown : w.ownsRow base 5 1 v xs.length (xs.map (Value.int .u8))) (hn : xs.length < 1000000000) (hbase : base ≤ w.heap.size) :
    Calls Try.prog 32 #[v, .int .i64 u, .bool big] w fun e w' => ∃ v', e = .returned v' ∧ w'.ownsRow base 5 1 v' (xs ++ put16 big u).length ((xs ++ put16 big u).map (Value.int .u8)) ∧ Below base w w' := by
  obtain ⟨va, vl, vc, rfl⟩ := own_slice hown
  have d1 : u.tdiv 256 = u / 256 := Int.tdiv_eq_ediv_of_nonneg h0
  have d2 : u.tmod 256 = u % 256 := Int.tmod_eq_emod_of_nonneg h0
  obtain ⟨p, hp⟩ : ∃ p, u / 256 = p := ⟨_, rfl⟩
  obtain ⟨q, hq⟩ : ∃ q, u % 256 = q := ⟨_, rfl⟩
  have hp1 : 0 ≤ p ∧ p < 256 := by omega
  have hq1 : 0 ≤ q ∧ q < 256 := by omega
  have HPU := Lib.hid (show put16 big u = if big then [p, q] else [q, p] by unfold put16; rw [hp, hq])
  rw [hp] at d1
  rw [hq] at d2
  clear hp hq
  obtain ⟨hp2, hp3⟩ := hp1
  obtain ⟨hq2, hq3⟩ := hq1
  cases big
  · obtain ⟨v', w', hr, h2, h3⟩ := app_u8_2 w base _ xs.length xs hown q p (by omega) hbase
    have HA := Lib.hid hr
    clear hr hown
    go_enter Try.func32, Try.ntmps32
    go_wp2_with (at_builtin; refine wpList_append_run rfl _ _ _ _ rfl _ _ rfl rfl _ _ HA.out ?_)
    go_ret
    exact ⟨_, rfl, by rw [HPU.out]; simpa using h2, h3⟩
  · obtain ⟨v', w', hr, h2, h3⟩ := app_u8_2 w base _ xs.length xs hown p q (by omega) hbase
    have HA := Lib.hid hr
    clear hr hown
    go_enter Try.func32, Try.ntmps32
    go_wp2_with (at_builtin; refine wpList_append_run rfl _ _ _ _ rfl _ _ rfl rfl _ _ HA.out ?_)
    go_ret
    exact ⟨_, rfl, by rw [HPU.out]; simpa using h2, h3⟩
set_option maxRecDepth 100000 in
theorem utf16_put (big : Bool) (u : Int) (h0 : 0 ≤ u) (h1 : u < 65536) (base : Nat) (v : Value) (xs : List Int) (w : World) (hown : w.ownsRow base 5 1 v xs.length (xs.map (Value.int .u8))) (hn : xs.length < 1000000000) (hbase : base ≤ w.heap.size) :
    Calls Try.prog 26 #[.bool big, v, .int .u16 u] w fun e w' => ∃ v', e = .returned v' ∧ w'.ownsRow base 5 1 v' (xs ++ put16 big u).length ((xs ++ put16 big u).map (Value.int .u8)) ∧ Below base w w' := by
  obtain ⟨va, vl, vc, rfl⟩ := own_slice hown
  cases big
  · obtain ⟨v', w', hr, h2, h3⟩ := app_u8_2 w base _ xs.length xs hown (u % 256) (u / 256) (by omega) hbase
    have HA := Lib.hid hr
    clear hr hown
    go_enter Try.func26, Try.ntmps26
    go_wp2_with (at_builtin; refine wpList_append_run rfl _ _ _ _ rfl _ _ rfl rfl _ _ HA.out ?_)
    go_ret
    exact ⟨_, rfl, by unfold put16; simpa using h2, h3⟩
  · obtain ⟨v', w', hr, h2, h3⟩ := app_u8_2 w base _ xs.length xs hown (u / 256) (u % 256) (by omega) hbase
    have HA := Lib.hid hr
    clear hr hown
    go_enter Try.func26, Try.ntmps26
    go_wp2_with (at_builtin; refine wpList_append_run rfl _ _ _ _ rfl _ _ rfl rfl _ _ HA.out ?_)
    go_ret
    exact ⟨_, rfl, by unfold put16; simpa using h2, h3⟩
end Go.Proofs.Ytppabccedmdajaa
