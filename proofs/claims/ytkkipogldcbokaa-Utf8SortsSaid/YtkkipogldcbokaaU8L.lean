/-
  The walks of layer 2's statements: what is common (wakes, same).
-/
import Derived.Test.YtkkipogldcbokaaU8F
import Derived.Test.YtkkipogldcbokaaU8G
namespace Go.Proofs.Ytkkipogldcbokaa
open Go.RowKit
theorem Reads.open {B : Nat} {w : World} {v : Value} {k : IntKind} {xs : List Int} (h : Reads B w v (xs.map (Value.int k))) :
    ∃ a cap, v = .slice a xs.length cap ∧ xs.length ≤ maxLen ∧ (∀ i (_ : i < xs.length), ∃ b off, a = some ⟨b, off, none⟩ ∧ b < B ∧ w.cell? ⟨b, off + i, none⟩ = some (.int k xs[i])) := by
  obtain ⟨hl, a, cap, rfl, h⟩ := h
  rw [List.length_map] at hl
  refine ⟨a, cap, by rw [List.length_map], hl, fun i hi => ?_⟩
  rcases h with h | ⟨b, off, rfl, hB, hc⟩
  · rw [List.map_eq_nil_iff] at h; subst h; simp at hi
  · exact ⟨b, off, rfl, hB, by rw [hc i (by rw [List.length_map]; exact hi), List.getElem_map]⟩
set_option maxHeartbeats 400000 in
theorem law02_wakes (w : World) :
    Calls Try.prog 9 #[] w fun e w' => e = .returned (.bool true) ∧ Below w.heap.size w w' := by
  have e1 : strOfNums (looseN (nums ⟨#[97, 226, 130, 98]⟩)) = ⟨#[97, 239, 191, 189, 98]⟩ := by rfl
  have e2 : firstN (nums ⟨#[97, 226, 130, 98]⟩) = 1 := by rfl
  have e3 : encS 8364 = ⟨#[226, 130, 172]⟩ := by rfl
  have e4 : isSc 8364 = true := by rfl
  have e5 : sLen 65536 = 4 := by rfl
  have E1 := Lib.hid e1
  have E2 := Lib.hid e2
  have E3 := Lib.hid e3
  have E4 := Lib.hid e4
  have E5 := Lib.hid e5
  clear e1 e2 e3 e4 e5
  go_enter Try.func9, Try.ntmps9
  go_wp2_with fail
  refine (utf8_Loose _ _ (by decide)).mono ?_
  rw [E1.out, E2.out]
  rintro e w1 ⟨rfl, hb1⟩
  go_wp2_with fail
  refine (utf8_Put _ _).mono ?_
  rw [E3.out, E4.out]
  rintro e w2 ⟨rfl, hb2⟩
  go_wp2_with fail
  refine (utf8_Len _ _).mono ?_
  rw [E5.out]
  rintro e w3 ⟨rfl, hb3⟩
  go_wp2
  go_ret
  exact ⟨rfl, (hb1.trans (hb2.mono hb1.size)).trans (hb3.mono (hb1.trans (hb2.mono hb1.size)).size)⟩
set_option maxHeartbeats 1000000 in
theorem law02_same (v u : Value) (xs ys : List Int) (B : Nat) (w : World) (hv : Reads B w v (xs.map (Value.int .i64))) (hu : Reads B w u (ys.map (Value.int .i64))) (hB : B ≤ w.heap.size) :
    Calls Try.prog 25 #[v, u] w fun e w' => e = .returned (.bool (decide (xs = ys))) ∧ Below w.heap.size w w' := by
  obtain ⟨a, cap, rfl, hl, hc⟩ := hv.open
  obtain ⟨a', cap', rfl, hl', hc'⟩ := hu.open
  clear hv hu
  by_cases hlen : xs.length = ys.length
  · have hbeq : (((xs.length : Int) != (ys.length : Int))) = false := by rw [hlen]; simp
    unfold maxLen at hl hl'
    go_enter Try.func25, Try.ntmps25
    go_wp2_with fail
    go_loopw [5] (fun i wr => ∃ k : Nat, i = .int .i64 k ∧ k ≤ xs.length ∧ xs.take k = ys.take k ∧ Below w.heap.size w wr) (fun i _ => xs.length - (intOf i).toNat)
    case atStart => exact ⟨0, rfl, by omega, by simp, Below.refl _ _⟩
    case round =>
      obtain ⟨k, rfl, hk, htk, hb⟩ := hrel
      by_cases hlt : k < xs.length
      · have hlt' : k < ys.length := by omega
        obtain ⟨b, off, rfl, hbB, hcx⟩ := hc k hlt
        obtain ⟨b', off', rfl, hbB', hcy⟩ := hc' k hlt'
        have hcx1 := (hb.cell (p := ⟨b, off + k, none⟩) (by exact Nat.lt_of_lt_of_le hbB hB)).trans hcx
        have hcy1 := (hb.cell (p := ⟨b', off' + k, none⟩) (by exact Nat.lt_of_lt_of_le hbB' hB)).trans hcy
        obtain ⟨x, hx⟩ : ∃ x, xs[k] = x := ⟨_, rfl⟩
        obtain ⟨y, hy⟩ : ∃ y, ys[k] = y := ⟨_, rfl⟩
        rw [hx] at hcx1
        rw [hy] at hcy1
        have hki : (k : Int) < (xs.length : Int) := by omega
        have hki' : (k : Int) < (ys.length : Int) := by omega
        by_cases hxy : x = y
        · have ht1 : xs.take (k + 1) = ys.take (k + 1) := by rw [take_snoc xs k hlt, take_snoc ys k hlt', htk, hx, hy, hxy]
          have HT := Lib.hid ht1
          clear hc hc' hcx hcy htk hx hy ht1 hbeq
          subst hxy
          have hne : (x != x) = false := by simp
          go_wp2_with fail
          go_quiet (fail)
          go_wp2
          exact ⟨⟨k + 1, by go_num, by omega, HT.out, below_dn hb _⟩, by simp [intOf]; omega⟩
        · have HD := Lib.hid (show decide (xs = ys) = false from decide_eq_false (fun h => hxy (by subst h; rw [← hx, ← hy])))
          have hne : (x != y) = true := by simpa using hxy
          clear hc hc' hcx hcy htk hx hy hxy hbeq
          go_wp2_with fail
          go_quiet (fail)
          go_wp2
          go_ret
          exact ⟨by rw [HD.out]; rfl, below_dn hb _⟩
      · have HD := Lib.hid (show decide (xs = ys) = true from decide_eq_true (by
          have e1 : xs.take k = xs := List.take_of_length_le (by omega)
          have e2 : ys.take k = ys := List.take_of_length_le (by omega)
          rw [← e1, htk, e2]))
        clear hc hc' htk
        go_wp2
        go_ret
        exact ⟨by rw [HD.out]; rfl, hb⟩
  · have hbeq : (((xs.length : Int) != (ys.length : Int))) = true := by simp; omega
    have HD := Lib.hid (show decide (xs = ys) = false from decide_eq_false (fun h => hlen (by rw [h])))
    go_enter Try.func25, Try.ntmps25
    go_wp2
    go_ret
    exact ⟨by rw [HD.out]; rfl, Below.refl _ _⟩
end Go.Proofs.Ytkkipogldcbokaa
