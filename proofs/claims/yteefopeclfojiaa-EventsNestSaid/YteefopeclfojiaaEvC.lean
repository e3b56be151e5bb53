/-
  Layer 16: the walks of events.Whole, Depth, at, End.
-/
import Derived.Test.YteefopeclfojiaaEvB
namespace Go.Proofs.Yteefopeclfojiaa
open Go.RowKit
set_option maxRecDepth 100000 in
theorem events_Whole (B : Nat) (es : List Evt) (v : Value) (w : World) (hr : EvsR B w v es) (hB : B ≤ w.heap.size) (hn : es.length ≤ 1000000) (hz : ∀ e ∈ es, e.at_.length ≤ 140737488351232) :
    Calls Try.prog 16 #[v] w fun r w' => r = .returned (.bool (growP es).isSome) ∧ Below w.heap.size w w' := by
  have hg := events_grow B es v w hr hB hn hz
  obtain ⟨R, hR⟩ : ∃ R, growP es = R := ⟨_, rfl⟩
  rw [hR] at hg ⊢
  have H := Lib.hid hg
  clear hg hR
  cases R with
  | none =>
    go_enter Try.func16, Try.ntmps16
    go_wp2_with fail
    refine (H.out).mono ?_
    rintro r w1 ⟨rfl, hb⟩
    go_wp2_with fail
    go_ret
    exact ⟨rfl, hb⟩
  | some g =>
    go_enter Try.func16, Try.ntmps16
    go_wp2_with fail
    refine (H.out).mono ?_
    rintro r w1 ⟨p, mb, rfl, hb, -⟩
    go_wp2_with fail
    go_ret
    exact ⟨rfl, hb⟩
/-- how deep events are; nothing, if they are not whole. -/
def depP (es : List Evt) : Nat := match growP es with
  | none => 0
  | some g => g.deep
set_option maxRecDepth 100000 in
theorem events_Depth (B : Nat) (es : List Evt) (v : Value) (w : World) (hr : EvsR B w v es) (hB : B ≤ w.heap.size) (hn : es.length ≤ 1000000) (hz : ∀ e ∈ es, e.at_.length ≤ 140737488351232) :
    Calls Try.prog 20 #[v] w fun r w' => r = .returned (.int .i64 (depP es)) ∧ Below w.heap.size w w' := by
  have hg := events_grow B es v w hr hB hn hz
  unfold depP
  obtain ⟨R, hR⟩ : ∃ R, growP es = R := ⟨_, rfl⟩
  rw [hR] at hg ⊢
  have H := Lib.hid hg
  clear hg hR
  cases R with
  | none =>
    go_enter Try.func20, Try.ntmps20
    go_wp2_with fail
    refine (H.out).mono ?_
    rintro r w1 ⟨rfl, hb⟩
    go_wp2_with fail
    go_ret
    exact ⟨rfl, hb⟩
  | some g =>
    go_enter Try.func20, Try.ntmps20
    go_wp2_with fail
    refine (H.out).mono ?_
    rintro r w1 ⟨p, mb, rfl, hb, ht, -⟩
    have hc : _ = some (Value.int .i64 g.deep) := ht.cell 2 rfl
    go_wp2_with fail
    go_ret
    exact ⟨rfl, hb⟩
/-- an element's tree; none: there is no element at the place, or events are not whole. -/
def atP (es : List Evt) (i : Int) : Option Gr := if 0 ≤ i ∧ i < es.length ∧ (es[i.toNat]?).map Evt.k = some 0 then growP es else none
set_option maxRecDepth 100000 in
set_option maxHeartbeats 2000000 in
theorem events_at (B : Nat) (es : List Evt) (v : Value) (i : Int) (w : World) (hr : EvsR B w v es) (hB : B ≤ w.heap.size) (hn : es.length ≤ 1000000) (hz : ∀ e ∈ es, e.at_.length ≤ 140737488351232) :
    Calls Try.prog 63 #[v, .int .i64 i] w fun r w' => GrowS w w' v (atP es i) r := by
  have hg := events_grow B es v w hr hB hn hz
  have hr0 := hr
  obtain ⟨avs, ⟨a, cap, rfl, -⟩, -⟩ := hr0
  obtain ⟨R, hR⟩ : ∃ R, atP es i = R := ⟨_, rfl⟩
  rw [hR]
  unfold atP at hR
  by_cases h0 : 0 ≤ i
  · obtain ⟨k, rfl⟩ : ∃ k : Nat, i = (k : Int) := ⟨i.toNat, by omega⟩
    by_cases h1 : k < es.length
    · obtain ⟨x, hx⟩ : ∃ x, es[k]? = some x := ⟨_, List.getElem?_eq_getElem h1⟩
      obtain ⟨b, off, cap', av, hv, -, c0, -⟩ := hr.get (Below.refl B w) (Nat.le_refl _) k x hx
      cases hv
      obtain ⟨n, hnn⟩ : ∃ n, es.length = n := ⟨_, rfl⟩
      rw [Int.toNat_natCast, hx] at hR
      rw [hnn] at hg hR h1 ⊢
      by_cases hk : x.k = 0
      · rw [if_pos ⟨h0, by omega, by rw [← hk]; rfl⟩] at hR
        rw [hR] at hg
        have q0 : (x.k != 0) = false := by simp [hk]
        have H := Lib.hid hg
        clear hg hR hr hx hnn hk
        go_enter Try.func63, Try.ntmps63
        go_wp2_with fail
        refine (H.out).mono ?_
        rintro r w1 hg
        cases R with
        | none =>
          obtain ⟨rfl, hb⟩ := hg
          go_wp2_with fail
          go_ret
          exact ⟨rfl, hb⟩
        | some g =>
          obtain ⟨p, mb, rfl, hrest⟩ := hg
          have HR := Lib.hid hrest
          clear hrest
          go_wp2_with fail
          go_ret
          exact ⟨p, mb, rfl, HR.out⟩
      · rw [if_neg (fun h => hk (by have := h.2.2; injection this))] at hR
        subst hR
        have q0 : (x.k != 0) = true := by simpa using hk
        clear hg hr hx hnn hk
        go_enter Try.func63, Try.ntmps63
        go_wp2_with fail
        go_ret
        exact ⟨rfl, Below.refl _ _⟩
    · rw [if_neg (fun h => h1 (by omega))] at hR
      subst hR
      have q0 := decide_eq_true (show es.length ≤ k by omega)
      clear hg hr
      go_enter Try.func63, Try.ntmps63
      go_wp2_with fail
      go_ret
      exact ⟨rfl, Below.refl _ _⟩
  · rw [if_neg (fun h => h0 h.1)] at hR
    subst hR
    have q0 := decide_eq_true (show i < 0 by omega)
    clear hg hr
    go_enter Try.func63, Try.ntmps63
    go_wp2_with fail
    go_ret
    exact ⟨rfl, Below.refl _ _⟩
/-- where an element's end is, as the map tells it. -/
def endV (g : Gr) (i : Int) : Value := (aGet g.ends i).getD (.int .i64 0)
theorem zInt (w : World) : (zeroValue 3).run Try.prog w = .ok (.int .i64 0) w := by kernel_rfl
theorem ends_look {W : World} {b : Nat} {g : Gr} (h : IMap W .i64 b g.ends) (i : Int) :
    (Instr.lookup 80 (.map (some b)) (.int .i64 i) false).run Try.prog W = .ok (endV g i) W :=
  (h.lookup (t := 80) Try.underlying80 Try.underlying3 (.int .i64 0) (zInt W) i).2
/-- what End comes to. -/
def EndS (w w' : World) (R : Option Gr) (i : Int) (e : Ending) : Prop := Below w.heap.size w w' ∧ match R with
  | none => e = .returned (.tuple #[.int .i64 0, .bool false])
  | some g => e = .returned (.tuple #[endV g i, .bool true])
set_option maxRecDepth 100000 in
theorem events_End (B : Nat) (es : List Evt) (v : Value) (i : Int) (w : World) (hr : EvsR B w v es) (hB : B ≤ w.heap.size) (hn : es.length ≤ 1000000) (hz : ∀ e ∈ es, e.at_.length ≤ 140737488351232) :
    Calls Try.prog 19 #[v, .int .i64 i] w fun r w' => EndS w w' (atP es i) i r := by
  have hg := events_at B es v i w hr hB hn hz
  obtain ⟨R, hR⟩ : ∃ R, atP es i = R := ⟨_, rfl⟩
  rw [hR] at hg ⊢
  have H := Lib.hid hg
  clear hg hR
  cases R with
  | none =>
    go_enter Try.func19, Try.ntmps19
    go_wp2_with fail
    refine (H.out).mono ?_
    rintro r w1 ⟨rfl, hb⟩
    go_wp2_with fail
    go_ret2
    exact ⟨hb, rfl⟩
  | some g =>
    go_enter Try.func19, Try.ntmps19
    go_wp2_with fail
    refine (H.out).mono ?_
    rintro r w1 ⟨p, mb, rfl, hb, ht, hm, -⟩
    have hc : _ = some (Value.map (some mb)) := ht.cell 1 rfl
    have hlk := ends_look hm i
    obtain ⟨ev, hev⟩ : ∃ e, endV g i = e := ⟨_, rfl⟩
    rw [hev] at hlk
    have HEV := Lib.hid hev
    clear hev hm ht
    go_wp2_with fail
    go_ret2
    refine ⟨hb, ?_⟩
    show _ = Ending.returned (.tuple #[endV g i, .bool true])
    rw [HEV.out]
    rfl
end Go.Proofs.Yteefopeclfojiaa
