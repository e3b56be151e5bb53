/-
  Layer 16: the walk of events.Path.
-/
import Derived.Test.YteefopeclfojiaaEvL
import Derived.Test.YteefopeclfojiaaEvM
namespace Go.Proofs.Yteefopeclfojiaa
open Go.RowKit
/-- the elements among the first k that end at p or behind. -/
def pathK (E : Nat → Option Nat) (p : Nat) : Nat → List Nat
  | 0 => []
  | k + 1 => pathK E p k ++ (match E k with
    | some j => if p ≤ j then [k] else []
    | none => [])
theorem pathK_len (E : Nat → Option Nat) (p : Nat) : ∀ k, (pathK E p k).length ≤ k
  | 0 => Nat.le_refl _
  | k + 1 => by
    have ih := pathK_len E p k
    rw [pathK, List.length_append]
    have : (match E k with
    | some j => if p ≤ j then [k] else []
    | none => []).length ≤ 1 := by
      split
      · split <;> simp
      · simp
    omega
/-- the names of the elements in which an element stands. -/
def pathP (es : List Evt) (i : Int) : List (ByteArray × ByteArray) := match atP es i with
  | none => []
  | some g => nmAt es (pathK (endO g) i.toNat (i.toNat + 1))
/-- a slice of names. -/
def NmsR (w' : World) (base : Nat) (v : Value) (l : List (ByteArray × ByteArray)) : Prop := w'.ownsRow base 24 2 v l.length (nmC l)
def PathS (w w' : World) (l : List (ByteArray × ByteArray)) (r : Ending) : Prop := ∃ v, r = .returned v ∧ NmsR w' w.heap.size v l ∧ Below w.heap.size w w'
set_option maxRecDepth 100000 in
set_option maxHeartbeats 8000000 in
theorem events_Path (B : Nat) (es : List Evt) (v : Value) (i : Int) (w : World) (hr : EvsR B w v es) (hB : B ≤ w.heap.size) (hn : es.length ≤ 999999) (hz : ∀ e ∈ es, e.at_.length ≤ 140737488351232) :
    Calls Try.prog 23 #[v, .int .i64 i] w fun r w' => PathS w w' (pathP es i) r := by
  have hg := events_at B es v i w hr hB (by omega) hz
  unfold pathP
  obtain ⟨R, hR⟩ : ∃ R, atP es i = R := ⟨_, rfl⟩
  rw [hR] at hg ⊢
  have H := Lib.hid hg
  clear hg
  obtain ⟨avs, ⟨a, cap, rfl, -⟩, -⟩ := id hr
  obtain ⟨n, hnn⟩ : ∃ n, es.length = n := ⟨_, rfl⟩
  have HN := Lib.hid hnn
  rw [hnn] at hr hn H ⊢
  clear hnn
  cases R with
  | none =>
    clear hr hz hR
    go_enter Try.func23, Try.ntmps23
    go_wp2_with fail
    refine (H.out).mono ?_
    rintro r w1 ⟨rfl, hb⟩
    go_wp2_with fail
    go_ret
    exact ⟨_, rfl, World.ownsRow_nil _ _ _ _, hb⟩
  | some g =>
    obtain ⟨-, hN, hcell, p, e, rfl, hE, hEn, hpe, he⟩ := atP_nest hR
    rw [HN.out] at he
    simp only [Int.toNat_natCast]
    have HST := Lib.hid (fun q => (hN.start q).2)
    have HC := Lib.hid hcell
    clear hR hN hcell hE hEn
    go_enter Try.func23, Try.ntmps23
    go_wp2_with fail
    refine (H.out).mono ?_
    rintro r w1 ⟨gp, mb, rfl, hb, ht, hm, h1, h2⟩
    have hp1 : p + 1 ≤ n := by omega
    go_wp2_with fail
    go_loopw [4, 16] (fun vs i wr => ∃ k : Nat, i = .int .i64 k ∧ k ≤ p + 1 ∧ NmsR wr w1.heap.size vs (nmAt es (pathK (endO g) p k)) ∧ Below w1.heap.size w1 wr) (fun _ i _ => p + 1 - (intOf i).toNat)
    case atStart => exact ⟨0, rfl, by omega, World.ownsRow_nil _ _ _ _, Below.refl _ _⟩
    case round =>
      obtain ⟨k, rfl, hk, hrow, hbl⟩ := hrel
      have T1 : _ = some (Value.map (some mb)) := (ht.below hbl ht.lt).cell 1 rfl
      have M1 := hm.low hbl hm.lt
      have hlk := ends_look2 M1 (k : Int)
      obtain ⟨va, vl, vc, rfl⟩ := own_slice hrow
      have hlen := pathK_len (endO g) p k
      by_cases hlt : k < p + 1
      · have hd := decide_eq_true (show (k : Int) < (p : Int) + 1 by omega)
        obtain ⟨x, hx⟩ : ∃ x, es[k]? = some x := ⟨_, List.getElem?_eq_getElem (by rw [HN.out]; omega)⟩
        cases hek : endO g k with
        | none =>
          obtain ⟨e1, e2⟩ := endV_none HC.out hek
          rw [e1, e2] at hlk
          have HRow := Lib.hid (show NmsR wr w1.heap.size (.slice va vl vc) (nmAt es (pathK (endO g) p (k + 1))) by
            rw [pathK, hek, List.append_nil]
            exact hrow)
          clear hr hz hx hrow e1 e2 M1 ht hm hek
          go_wp2_with fail
          exact ⟨⟨k + 1, by go_num, by omega, HRow.out, hbl⟩, by simp [intOf]; omega⟩
        | some j =>
          obtain ⟨e1, e2⟩ := endV_some HC.out hek
          rw [e1, e2] at hlk
          by_cases hpj : p ≤ j
          · have hd2 := decide_eq_true (show (p : Int) ≤ (j : Int) by omega)
            have hsn : nmAt es (pathK (endO g) p (k + 1)) = nmAt es (pathK (endO g) p k) ++ [x.n] := by
              rw [pathK, hek]
              simp only
              rw [if_pos hpj]
              exact nmAt_snoc es _ k x hx
            obtain ⟨b, off, cap', av, hv, hbB, c0, c1, c2, -⟩ := hr.get (hb.trans (hbl.mono hb.size)) hB k x hx
            rw [HN.out] at hv
            cases hv
            obtain ⟨v', w4, hrn, hro, hb4⟩ := app_nm wr w1.heap.size (.slice va vl vc) _ _ hrow x.n.1 x.n.2 (by rw [nmAt_len]; omega) hbl.size
            have HR := Lib.hid hrn
            have hkn : k < n := by omega
            have HRow := Lib.hid (show NmsR w4 w1.heap.size v' (nmAt es (pathK (endO g) p (k + 1))) by
              rw [hsn]
              unfold NmsR
              rw [nmC_snoc, List.length_append]
              exact hro)
            have hbw := hbl.trans hb4
            clear hr hz hx hrow e1 e2 M1 ht hm hek hsn hrn hro hb4
            go_wp2_with (at_builtin; refine wpList_append_run rfl _ _ _ _ rfl _ _ rfl rfl _ _ HR.out ?_)
            exact ⟨⟨k + 1, by go_num, by omega, HRow.out, hbw⟩, by simp [intOf]; omega⟩
          · have hd2 := decide_eq_false (show ¬ (p : Int) ≤ (j : Int) by omega)
            have HRow := Lib.hid (show NmsR wr w1.heap.size (.slice va vl vc) (nmAt es (pathK (endO g) p (k + 1))) by
              rw [pathK, hek]
              simp only
              rw [if_neg hpj, List.append_nil]
              exact hrow)
            clear hr hz hx hrow e1 e2 M1 ht hm hek
            go_wp2_with fail
            exact ⟨⟨k + 1, by go_num, by omega, HRow.out, hbl⟩, by simp [intOf]; omega⟩
      · have hd := decide_eq_false (show ¬ (k : Int) < (p : Int) + 1 by omega)
        have hkp : k = p + 1 := by omega
        subst hkp
        have HRow := Lib.hid hrow
        clear hr hz hrow M1 ht hm hlk
        go_wp2_with fail
        go_ret
        exact ⟨_, rfl, ownsRow_base HRow.out hb.size, hb.trans (hbl.mono hb.size)⟩
end Go.Proofs.Yteefopeclfojiaa
