/-
  Parts EvR Eva Evb Evc Eve of this seat's texts, in one file: contracts of functions that the law reaches, and the plain laws behind them. No condition.
-/
import Derived.Test.YteefopeclfojiaaG5
import Derived.Test.YteefopeclfojiaaG6
import Derived.Deep.RegionHeld3
/- 
  Layer 16: what an argument of events is known to be.
 -/
namespace Go.Proofs.Yteefopeclfojiaa
open Go.RowKit Go.ChangeShapes Go.WideShapes Go.Deep
/-- a row of events that came in: it reads, no part of it is too long, its capacity holds it. -/
structure EvsIn (W : World) (v : Value) (es : List Evt) : Prop where
  at_ : EvsAt W v es
  cap : CapR v es.length
theorem EvsIn.r {W : World} {v : Value} {es : List Evt} (h : EvsIn W v es) : EvsR W.heap.size W v es := h.at_.r
theorem EvsIn.small {W : World} {v : Value} {es : List Evt} (h : EvsIn W v es) : ∀ e ∈ es, e.tx.size ≤ 140737488351232 ∧ e.n.1.size ≤ 140737488351232 ∧ e.n.2.size ≤ 140737488351232 ∧ e.at_.length ≤ 140737488351232 ∧ ∀ a ∈ e.at_, a.1.1.size ≤ 140737488351232 ∧ a.1.2.size ≤ 140737488351232 ∧ a.2.size ≤ 140737488351232 := fun e he => by
  obtain ⟨h1, h2, h3, h4, h5, h6⟩ := h.at_.z e he
  exact ⟨h3, h1, h2, h4, h5⟩
/-- an event that came in. -/
structure EvIn (W : World) (e : Evt) (av : Value) : Prop where
  z : EvtZ e
  r : CReads W.heap.size W av e.at_.length (atC e.at_)
/-- a name that came in. -/
structure NmIn (n : ByteArray × ByteArray) : Prop where
  a : n.1.size ≤ 140737488351232
  b : n.2.size ≤ 140737488351232
section
variable {H : Type} {enc : TypeId × Value → H} {W : World} {b0 base : Nat} {held : Bool}
set_option maxRecDepth 100000 in
theorem open_evs {r : Reach} {v : Value} {d : DataW H} {p : List MemPlace} (hv : Value.okWide Try.prog W r b0 22 v) (h : DataW.Trod enc Try.prog W base (fun _ => true) held 22 v d p) (hw : Wt Try.prog 22 d) :
    ∃ es : List Evt, EvsIn W v es := by
  obtain ⟨es, he⟩ := open_events hv h hw
  refine ⟨es, he, ?_⟩
  obtain ⟨fuel, hf⟩ := h
  obtain ⟨a, len, cap, rfl⟩ := okWide_slice Try.underlying22 hv
  obtain ⟨avs, ⟨a2, c2, h2, -⟩, -⟩ := he.r
  injection h2 with h3 h4 h5
  subst h4
  rcases open_slice Try.underlying22 hf with ⟨h6, -⟩ | ⟨a', len', cap', m, n, D, Pl, h6, hb, hl, hm, -⟩
  · have h7 : Value.slice a es.length cap = .slice none 0 0 := by simpa [Value.cells] using h6
    injection h7 with h8 h9 h10
    exact ⟨a, cap, rfl, by omega, by rw [h10]; exact Nat.zero_le _⟩
  · have h7 : Value.slice a es.length cap = .slice (some a') len' cap' := by simpa [Value.cells] using h6
    injection h7 with h8 h9 h10
    exact ⟨a, cap, rfl, by omega, by omega⟩
set_option maxRecDepth 100000 in
theorem open_ev {r : Reach} {v : Value} {d : DataW H} {p : List MemPlace} (hv : Value.okWide Try.prog W r b0 30 v) (h : DataW.Trod enc Try.prog W base (fun _ => true) held 30 v d p) (hw : Wt Try.prog 30 d) :
    ∃ (e : Evt) (av : Value), v = evV e av ∧ EvIn W e av := by
  obtain ⟨e, av, h1, h2, h3⟩ := open_eventV hv h hw
  exact ⟨e, av, h1, h2, h3⟩
set_option maxRecDepth 100000 in
theorem open_nm {r : Reach} {v : Value} {d : DataW H} {p : List MemPlace} (hv : Value.okWide Try.prog W r b0 24 v) (h : DataW.Trod enc Try.prog W base (fun _ => true) held 24 v d p) (hw : Wt Try.prog 24 d) :
    ∃ n : ByteArray × ByteArray, v = .agg #[.string n.1, .string n.2] ∧ NmIn n := by
  obtain ⟨n, h1, h2, h3⟩ := open_nameV hv h hw
  exact ⟨n, h1, h2, h3⟩
end
end Go.Proofs.Yteefopeclfojiaa
/- 
  Layer 16: the law EventsTell.
 -/
namespace Go.Proofs.Yteefopeclfojiaa
open Go.RowKit
theorem putP_len (es : List Evt) (x : Evt) : (putP es x).length ≤ es.length + 1 := by
  unfold putP
  split
  · split
    · omega
    · split
      · rw [List.length_append]; simp
      · split
        · rw [List.length_append, List.length_dropLast]; simp
        · rw [List.length_append]; simp
  · rw [List.length_append]; simp
theorem putP_ats {es : List Evt} {x : Evt} {m : Nat} (h : ∀ e ∈ es, e.at_.length ≤ m) (hx : x.at_.length ≤ m) : ∀ e ∈ putP es x, e.at_.length ≤ m := by
  have h1 : ∀ e ∈ es ++ [x], e.at_.length ≤ m := fun e he => by
    rcases List.mem_append.1 he with he | he
    · exact h e he
    · rw [List.mem_singleton.1 he]; exact hx
  unfold putP
  split
  · split
    · exact h
    · split
      · exact h1
      · rename_i e he
        split
        · intro y hy
          rcases List.mem_append.1 hy with hy | hy
          · exact h y (List.dropLast_subset _ hy)
          · rw [List.mem_singleton.1 hy]
            exact h e (List.mem_of_getLast? he)
        · exact h1
  · exact h1
theorem bt2 {q : Nat} {w a b : World} (h : Below q w a) (hq : Hid (w.heap.size = q)) (hb : Below a.heap.size a b) : Below q w b := by
  have := hq.out
  subst this
  exact bt h hb
set_option maxRecDepth 100000 in
set_option maxHeartbeats 16000000 in
theorem law_EventsTell (v : Value) (es : List Evt) (u : Value) (ms : List Evt) (x : Evt) (av : Value) (w : World) (hl : EvsIn w v es) (hm : EvsIn w u ms) (hx : EvIn w x av) :
    Calls Try.prog 5 #[v, u, evV x av] w fun r w' => r = .returned (.bool true) ∧ Below w.heap.size w w' := by
  have hR := hl.r
  have hM := hm.r
  have hZ := hl.small
  have hZm := hm.small
  have hn := hl.at_.n
  have hnm := hm.at_.n
  have hcap := hl.cap
  obtain ⟨avs, ⟨a, cap, rfl, -⟩, -⟩ := id hR
  obtain ⟨bvs, ⟨c, cp, rfl, -⟩, -⟩ := id hM
  obtain ⟨aa, ac, rfl, -⟩ := id hx.r
  obtain ⟨k, ⟨n1, n2⟩, ats, tx⟩ := x
  have HX := Lib.hid (hx.r)
  have hxz := hx.z
  simp only [evV] at *
  have hb1 := (Below.refl w.heap.size w).alloc (Nat.le_refl _) (.cells #[.int .i8 k, .string n1, .string n2, .slice aa ats.length ac, .string tx] 30)
  have bX := BlkAt.new w #[.int .i8 k, .string n1, .string n2, .slice aa ats.length ac, .string tx] 30
  have G1 := Lib.hid (fun (W : World) (hW : Below w.heap.size w W) => ref16_Great w.heap.size es _ W (hR.below hW (Nat.le_refl _)) hW.size hn hZ)
  have G2 := Lib.hid (fun (W : World) (hW : Below w.heap.size w W) => ref16_Great w.heap.size ms _ W (hM.below hW (Nat.le_refl _)) hW.size hnm hZm)
  have HW := Lib.hid law_wakes
  have HL := Lib.hid (And.intro hl (And.intro hm hx))
  clear hR hM hl hm hx hZ hZm hcap hxz hn hnm
  go_enter Try.func5, Try.ntmps5
  go_wp2_with fail
  refine (G1.out _ hb1).mono ?_
  rintro r w2 ⟨b1, rfl, hg1, hb2⟩
  replace bX := bX.below hb2 bX.lt
  replace hb1 := bt hb1 hb2
  clear hb2 G1
  cases b1 with
  | true =>
    clear hg1 HX G2 HL
    go_wp2_with fail
    refine (HW.out _).mono ?_
    rintro r w9 ⟨rfl, hb9⟩
    go_wp2_with fail
    go_ret
    exact ⟨rfl, bt hb1 hb9⟩
  | false =>
    have O1 := Lib.hid (hg1 rfl)
    clear hg1
    go_wp2_with fail
    refine (G2.out _ hb1).mono ?_
    rintro r w3 ⟨b2, rfl, hg2, hb2⟩
    replace bX := bX.below hb2 bX.lt
    replace hb1 := bt hb1 hb2
    clear hb2 G2
    cases b2 with
    | true =>
      clear hg2 HX HL
      go_wp2_with fail
      refine (HW.out _).mono ?_
      rintro r w9 ⟨rfl, hb9⟩
      go_wp2_with fail
      go_ret
      exact ⟨rfl, bt hb1 hb9⟩
    | false =>
      have O2 := Lib.hid (hg2 rfl)
      clear hg2
      have f0 : w3.cell? ⟨w.heap.size, 0, none⟩ = some (Value.int .i8 k) := bX.cell 0 rfl
      have f1 : w3.cell? ⟨w.heap.size, 1, none⟩ = some (Value.string n1) := bX.cell 1 rfl
      have f2 : w3.cell? ⟨w.heap.size, 2, none⟩ = some (Value.string n2) := bX.cell 2 rfl
      have f3 : w3.cell? ⟨w.heap.size, 3, none⟩ = some (Value.slice aa ats.length ac) := bX.cell 3 rfl
      have f4 : w3.cell? ⟨w.heap.size, 4, none⟩ = some (Value.string tx) := bX.cell 4 rfl
      go_wp2_with fail
      have hO := OwnE.lit (B := w3.heap.size) (base := w3.heap.size) (w := w3) (es := [⟨k, (n1, n2), ats, tx⟩]) [.slice aa ats.length ac] #[.int .i8 k, .string n1, .string n2, .slice aa ats.length ac, .string tx] rfl
        ⟨((HX.out.below hb1 (Nat.le_refl _)).mono hb1.size).below ((Below.refl _ w3).alloc (Nat.le_refl _) _) (Nat.le_refl _), trivial⟩ (Nat.le_refl _) 1 rfl (by decide)
      have hb2 := hb1.alloc hb1.size (.cells #[.int .i8 k, .string n1, .string n2, .slice aa ats.length ac, .string tx] 30)
      have bX2 := bX.alloc (.cells #[.int .i8 k, .string n1, .string n2, .slice aa ats.length ac, .string tx] 30)
      have hRX := hO.reads (by simp)
      clear hO bX hb1 f0 f1 f2 f3 f4
      generalize hw4 : w3.alloc (.cells #[.int .i8 k, .string n1, .string n2, .slice aa ats.length ac, .string tx] 30) = w4 at bX2 hb2 hRX ⊢
      clear hw4
      refine (ref16_Great w4.heap.size [⟨k, (n1, n2), ats, tx⟩] _ w4 hRX (Nat.le_refl _) (by simp) (fun e he => by
        rw [List.mem_singleton.1 he]
        obtain ⟨h1, h2, h3, h4, h5, h6⟩ := HL.out.2.2.z
        exact ⟨h3, h1, h2, h4, h5⟩)).mono ?_
      rintro r w5 ⟨b3, rfl, hg3, hb5⟩
      have bX := bX2.below hb5 bX2.lt
      have hb1 := bt hb2 hb5
      clear hb2 hb5 bX2 hRX
      cases b3 with
      | true =>
        clear hg3 HX HL
        go_wp2_with fail
        refine (HW.out _).mono ?_
        rintro r w9 ⟨rfl, hb9⟩
        go_wp2_with fail
        go_ret
        exact ⟨rfl, bt hb1 hb9⟩
      | false =>
        have ok1 := O1.out
        have ok2 := O2.out
        have ok3 := hg3 rfl
        obtain ⟨hl, hm, hx⟩ := HL.out
        have hR := hl.r
        have hM := hm.r
        have hX := hx.r
        have hcap := hl.cap
        have at1 := ok1.ats
        have at2 := ok2.ats
        have hxa : ats.length ≤ 40 := ok3.ats ⟨k, (n1, n2), ats, tx⟩ (List.mem_singleton.2 rfl)
        have hlen := ok1.len
        have K1 := Lib.hid (fun (W : World) (hW : Below w.heap.size w W) => events_Whole w.heap.size es _ W (hR.below hW (Nat.le_refl _)) hW.size (by omega) fun e he => by have := at1 e he; omega)
        have K2 := Lib.hid (fun (W : World) (hW : Below w.heap.size w W) => ref16_Whole w.heap.size es _ W (hR.below hW (Nat.le_refl _)) hW.size (by omega) fun e he => by have := at1 e he; omega)
        have K3 := Lib.hid (fun (W : World) (hW : Below w.heap.size w W) => events_Depth w.heap.size es _ W (hR.below hW (Nat.le_refl _)) hW.size (by omega) fun e he => by have := at1 e he; omega)
        have K4 := Lib.hid (fun (W : World) (hW : Below w.heap.size w W) => ref16_Depth w.heap.size es _ W (hR.below hW (Nat.le_refl _)) hW.size (by omega) fun e he => by have := at1 e he; omega)
        have K5 := Lib.hid (fun (W : World) (hW : Below w.heap.size w W) => events_Same w.heap.size es ms _ _ W (hR.below hW (Nat.le_refl _)) (hM.below hW (Nat.le_refl _)) hW.size (by omega) fun e he => by have := at1 e he; omega)
        have K6 := Lib.hid (fun (W : World) (hW : Below w.heap.size w W) => ref16_Same w.heap.size es ms _ _ W (hR.below hW (Nat.le_refl _)) (hM.below hW (Nat.le_refl _)) hW.size (by omega) fun e he => by have := at1 e he; omega)
        have K7 := Lib.hid (fun (W : World) (hW : Below w.heap.size w W) => events_Put w.heap.size es _ ⟨k, (n1, n2), ats, tx⟩ _ W (hR.below hW (Nat.le_refl _)) hW.size (hX.below hW (Nat.le_refl _)) hcap (by omega) (fun e he => by have := ok1.at_le he; omega) (by have : tx.size ≤ 140737488351232 := hx.z.2.2.1; show tx.size ≤ _; omega))
        have K8 := Lib.hid (fun (W : World) (hW : Below w.heap.size w W) => ref16_Put w.heap.size es _ ⟨k, (n1, n2), ats, tx⟩ _ W (hR.below hW (Nat.le_refl _)) hW.size (hX.below hW (Nat.le_refl _)) hcap (by omega) (fun e he => by have := ok1.at_le he; omega) (by have : tx.size ≤ 140737488351232 := hx.z.2.2.1; show tx.size ≤ _; omega))
        obtain ⟨PP, hPP⟩ : ∃ P, putP es ⟨k, (n1, n2), ats, tx⟩ = P := ⟨_, rfl⟩
        have hp1 := putP_len es ⟨k, (n1, n2), ats, tx⟩
        have hp2 := putP_ats (x := ⟨k, (n1, n2), ats, tx⟩) at1 hxa
        rw [hPP] at hp1 hp2
        rw [hPP] at K7 K8
        have K9 := Lib.hid (fun (W : World) (v1 v2 : Value) (h1 : EvsR W.heap.size W v1 PP) (h2 : EvsR W.heap.size W v2 PP) => ref16_Same W.heap.size PP PP v1 v2 W h1 h2 (Nat.le_refl _) (by omega) fun e he => by have := hp2 e he; omega)
        rw [sameP_iff.2 rfl] at K9
        obtain ⟨bw, hbw⟩ : ∃ b, (growP es).isSome = b := ⟨_, rfl⟩
        obtain ⟨dp, hdp⟩ : ∃ d, depP es = d := ⟨_, rfl⟩
        obtain ⟨sm, hsm⟩ : ∃ s, sameP es ms = s := ⟨_, rfl⟩
        rw [hbw] at K1 K2
        rw [hdp] at K3 K4
        rw [hsm] at K5 K6
        unfold evV at K7 K8
        simp only at K7 K8
        have e1 : (bw == bw) = true := by simp
        have e2 : ((dp : Int) == (dp : Int)) = true := by simp
        have e3 : (sm == sm) = true := by simp
        clear hl hm hx hR hM hX hcap at1 at2 hxa hlen hbw hdp hsm hPP hp1 hp2 ok1 ok2 ok3 O1 O2 HX HL hg3
        replace bX := bX.below (Below.refl w5.heap.size w5).drew bX.lt
        replace hb1 := hb1.drew
        generalize hpw : w.heap.size = q at bX
        have f0 : w5.drew.cell? ⟨q, 0, none⟩ = some (Value.int .i8 k) := bX.cell 0 rfl
        have f1 : w5.drew.cell? ⟨q, 1, none⟩ = some (Value.string n1) := bX.cell 1 rfl
        have f2 : w5.drew.cell? ⟨q, 2, none⟩ = some (Value.string n2) := bX.cell 2 rfl
        have f3 : w5.drew.cell? ⟨q, 3, none⟩ = some (Value.slice aa ats.length ac) := bX.cell 3 rfl
        have f4 : w5.drew.cell? ⟨q, 4, none⟩ = some (Value.string tx) := bX.cell 4 rfl
        have hq := Lib.hid hpw
        rw [hpw] at hb1 K1 K2 K3 K4 K5 K6 K7 K8
        clear hpw
        go_wp2_with fail
        go_region_held3 (fun w' => w'.cell? ⟨q, 0, none⟩ = some (Value.int .i8 k) ∧ w'.cell? ⟨q, 1, none⟩ = some (Value.string n1) ∧ w'.cell? ⟨q, 2, none⟩ = some (Value.string n2) ∧ w'.cell? ⟨q, 3, none⟩ = some (Value.slice aa ats.length ac) ∧ w'.cell? ⟨q, 4, none⟩ = some (Value.string tx)) (first | go_keep | exact ⟨f0, f1, f2, f3, f4⟩) (first
          | (go_at_call 16; refine (K1.out _ hb1).mono ?_; rintro r w7 ⟨rfl, hb⟩; have bX := bX.below hb bX.lt; have hb1 := bt2 hb1 hq hb; have f0 := bX.cell 0 rfl; have f1 := bX.cell 1 rfl; have f2 := bX.cell 2 rfl; have f3 := bX.cell 3 rfl; have f4 := bX.cell 4 rfl)
          | (go_at_call 24; refine (K2.out _ hb1).mono ?_; rintro r w7 ⟨rfl, hb⟩; have bX := bX.below hb bX.lt; have hb1 := bt2 hb1 hq hb; have f0 := bX.cell 0 rfl; have f1 := bX.cell 1 rfl; have f2 := bX.cell 2 rfl; have f3 := bX.cell 3 rfl; have f4 := bX.cell 4 rfl)
          | (go_at_call 20; refine (K3.out _ hb1).mono ?_; rintro r w7 ⟨rfl, hb⟩; have bX := bX.below hb bX.lt; have hb1 := bt2 hb1 hq hb; have f0 := bX.cell 0 rfl; have f1 := bX.cell 1 rfl; have f2 := bX.cell 2 rfl; have f3 := bX.cell 3 rfl; have f4 := bX.cell 4 rfl)
          | (go_at_call 25; refine (K4.out _ hb1).mono ?_; rintro r w7 ⟨rfl, hb⟩; have bX := bX.below hb bX.lt; have hb1 := bt2 hb1 hq hb; have f0 := bX.cell 0 rfl; have f1 := bX.cell 1 rfl; have f2 := bX.cell 2 rfl; have f3 := bX.cell 3 rfl; have f4 := bX.cell 4 rfl)
          | (go_at_call 26; refine (K5.out _ hb1).mono ?_; rintro r w7 ⟨rfl, hb⟩; have bX := bX.below hb bX.lt; have hb1 := bt2 hb1 hq hb; have f0 := bX.cell 0 rfl; have f1 := bX.cell 1 rfl; have f2 := bX.cell 2 rfl; have f3 := bX.cell 3 rfl; have f4 := bX.cell 4 rfl)
          | (go_at_call 27; refine (K6.out _ hb1).mono ?_; rintro r w7 ⟨rfl, hb⟩; clear K6; have bX := bX.below hb bX.lt; have hb1 := bt2 hb1 hq hb; have f0 := bX.cell 0 rfl; have f1 := bX.cell 1 rfl; have f2 := bX.cell 2 rfl; have f3 := bX.cell 3 rfl; have f4 := bX.cell 4 rfl)
          | (go_at_call 28; refine (K7.out _ hb1).mono ?_; rintro r w7 ⟨v1, rfl, R1, -, hb⟩; have bX := bX.below hb bX.lt; have hb1 := bt2 hb1 hq hb; have f0 := bX.cell 0 rfl; have f1 := bX.cell 1 rfl; have f2 := bX.cell 2 rfl; have f3 := bX.cell 3 rfl; have f4 := bX.cell 4 rfl)
          | (go_at_call 29; refine (K8.out _ hb1).mono ?_; rintro r w7 ⟨v2, rfl, R2, -, hb⟩; have R1 := R1.up hb; have bX := bX.below hb bX.lt; have hb1 := bt2 hb1 hq hb; have f0 := bX.cell 0 rfl; have f1 := bX.cell 1 rfl; have f2 := bX.cell 2 rfl; have f3 := bX.cell 3 rfl; have f4 := bX.cell 4 rfl)
          | (go_at_call 27; refine (K9.out _ _ _ R1 R2).mono ?_; rintro r w7 ⟨rfl, hb⟩; have bX := bX.below hb bX.lt; have hb1 := bt2 hb1 hq hb; have f0 := bX.cell 0 rfl; have f1 := bX.cell 1 rfl; have f2 := bX.cell 2 rfl; have f3 := bX.cell 3 rfl; have f4 := bX.cell 4 rfl)
          | (go_at_call 17; refine (HW.out _).mono ?_; rintro r w7 ⟨rfl, hb⟩; have bX := bX.below hb bX.lt; have hb1 := bt2 hb1 hq hb; have f0 := bX.cell 0 rfl; have f1 := bX.cell 1 rfl; have f2 := bX.cell 2 rfl; have f3 := bX.cell 3 rfl; have f4 := bX.cell 4 rfl))
        go_wp2_with fail
        go_ret
        exact ⟨rfl, by rw [hq.out]; exact hb1⟩
end Go.Proofs.Yteefopeclfojiaa
/- 
  Layer 16: the law EventsPut.
 -/
namespace Go.Proofs.Yteefopeclfojiaa
open Go.RowKit
/-- no text is empty, no two stand side by side. -/
def NormE (l : List Evt) : Prop := (∀ (k : Nat) (x : Evt), l[k]? = some x → x.k = 2 → emB x.tx = false) ∧ ∀ (k : Nat) (x y : Evt), l[k]? = some x → l[k + 1]? = some y → ¬ (x.k = 2 ∧ y.k = 2)
theorem emB_app {a b : ByteArray} (h : emB b = false) : emB (a ++ b) = false := by
  unfold emB at *
  rw [ByteArray.toList_eq] at *
  cases hb : b.data.toList with
  | nil => rw [hb] at h; cases h
  | cons x r => simp [hb]
theorem normE_snoc {l : List Evt} {x : Evt} (h : NormE l) (h1 : x.k = 2 → emB x.tx = false) (h2 : x.k = 2 → ∀ e, l.getLast? = some e → e.k ≠ 2) : NormE (l ++ [x]) := by
  refine ⟨fun k y hy hk => ?_, fun k y z hy hz => ?_⟩
  · rcases Nat.lt_or_ge k l.length with hl | hl
    · rw [List.getElem?_append_left hl] at hy
      exact h.1 k y hy hk
    · rw [List.getElem?_append_right hl] at hy
      have : k - l.length = 0 := by
        have := (List.getElem?_eq_some_iff.1 hy).1
        simp at this
        omega
      rw [this] at hy
      simp at hy
      subst hy
      exact h1 hk
  · rcases Nat.lt_or_ge (k + 1) l.length with hl | hl
    · rw [List.getElem?_append_left (by omega)] at hy
      rw [List.getElem?_append_left hl] at hz
      exact h.2 k y z hy hz
    · rw [List.getElem?_append_right hl] at hz
      have h3 := (List.getElem?_eq_some_iff.1 hz).1
      simp at h3
      have h4 : k + 1 = l.length := by omega
      rw [show k + 1 - l.length = 0 by omega] at hz
      simp at hz
      subst hz
      rw [List.getElem?_append_left (by omega)] at hy
      rintro ⟨h5, h6⟩
      exact h2 h6 y (by rw [List.getLast?_eq_getElem?, ← h4]; exact hy) h5
theorem normE_init {l : List Evt} {x : Evt} (h : NormE (l ++ [x])) : NormE l ∧ (x.k = 2 → emB x.tx = false) ∧ (x.k = 2 → ∀ e, l.getLast? = some e → e.k ≠ 2) := by
  refine ⟨⟨fun k y hy hk => h.1 k y ?_ hk, fun k y z hy hz => h.2 k y z ?_ ?_⟩, fun hk => h.1 l.length x (by simp) hk, fun hk e he h2 => ?_⟩
  · rw [List.getElem?_append_left (List.getElem?_eq_some_iff.1 hy).1]; exact hy
  · rw [List.getElem?_append_left (List.getElem?_eq_some_iff.1 hy).1]; exact hy
  · rw [List.getElem?_append_left (List.getElem?_eq_some_iff.1 hz).1]; exact hz
  · rw [List.getLast?_eq_getElem?] at he
    have hl := (List.getElem?_eq_some_iff.1 he).1
    refine h.2 (l.length - 1) e x ?_ ?_ ⟨h2, hk⟩
    · rw [List.getElem?_append_left hl]; exact he
    · rw [show l.length - 1 + 1 = l.length by omega]; simp
theorem putP_norm {l : List Evt} {x : Evt} (h : NormE l) : NormE (putP l x) := by
  unfold putP
  split
  · rename_i hk
    split
    · exact h
    · rename_i hem
      have hem : emB x.tx = false := by simpa using hem
      split
      · rename_i hl
        exact normE_snoc h (fun _ => hem) fun _ e he => by rw [hl] at he; cases he
      · rename_i e he
        obtain ⟨ini, rfl⟩ := List.getLast?_eq_some_iff.1 he
        obtain ⟨n1, n2, n3⟩ := normE_init h
        split
        · rename_i hek
          rw [List.dropLast_concat]
          exact normE_snoc n1 (fun _ => emB_app hem) fun _ => n3 hek
        · rename_i hek
          exact normE_snoc h (fun _ => hem) fun _ e' he' => by
            rw [he] at he'
            injection he' with he'
            rw [← he']
            exact hek
  · rename_i hk
    exact normE_snoc h (fun h => absurd h hk) fun h => absurd h hk
theorem putP_id {l : List Evt} {x : Evt} (h : NormE (l ++ [x])) : putP l x = l ++ [x] := by
  obtain ⟨n1, n2, n3⟩ := normE_init h
  unfold putP
  split
  · rename_i hk
    rw [if_neg (by rw [n2 hk]; decide)]
    split
    · rfl
    · rename_i e he
      rw [if_neg (n3 hk e he)]
  · rfl
/-- one by one put into nothing. -/
def putA (l : List Evt) : List Evt := l.foldl putP []
theorem putA_snoc (l : List Evt) (k : Nat) (x : Evt) (h : l[k]? = some x) : putA (l.take (k + 1)) = putP (putA (l.take k)) x := by
  unfold putA
  rw [List.take_add_one, h, List.foldl_append]
  rfl
theorem putA_norm : ∀ (l : List Evt) (m : List Evt), NormE m → NormE (l.foldl putP m)
  | [], _, h => h
  | _ :: r, _, h => putA_norm r _ (putP_norm h)
theorem putA_id {l : List Evt} (h : NormE l) : ∀ k, k ≤ l.length → putA (l.take k) = l.take k
  | 0, _ => by simp [putA]
  | k + 1, hk => by
    obtain ⟨x, hx⟩ : ∃ x, l[k]? = some x := ⟨_, List.getElem?_eq_getElem (by omega)⟩
    have htk : l.take (k + 1) = l.take k ++ [x] := by rw [List.take_add_one, hx]; rfl
    rw [putA_snoc l k x hx, putA_id h k (by omega), htk]
    refine putP_id ?_
    rw [← htk]
    have hp : l = l.take (k + 1) ++ l.drop (k + 1) := (List.take_append_drop _ _).symm
    refine ⟨fun j y hy hk => h.1 j y ?_ hk, fun j y z hy hz => h.2 j y z ?_ ?_⟩
    all_goals
      rw [hp, List.getElem?_append_left]
      · first | exact hy | exact hz
      · first | exact (List.getElem?_eq_some_iff.1 hy).1 | exact (List.getElem?_eq_some_iff.1 hz).1
theorem numsApp (x y : ByteArray) : nums (x ++ y) = nums x ++ nums y := by
  unfold nums
  rw [ByteArray.data_append, Array.toList_append, List.map_append]
theorem txsL_put (l : List Evt) (x : Evt) : txsL (putP l x) = txsL l ++ nums x.tx := by
  have ha : ∀ (a : List Evt) (y : Evt), txsL (a ++ [y]) = txsL a ++ nums y.tx := fun a y => by unfold txsL; rw [List.flatMap_append]; simp
  unfold putP
  split
  · split
    · rename_i hem
      have : nums x.tx = [] := by
        unfold emB at hem
        rw [ByteArray.toList_eq] at hem
        unfold nums
        have : x.tx.data.toList = [] := by simpa using hem
        rw [this]
        rfl
      rw [this, List.append_nil]
    · split
      · exact ha l x
      · rename_i e he
        split
        · obtain ⟨ini, rfl⟩ := List.getLast?_eq_some_iff.1 he
          rw [List.dropLast_concat, ha, ha, numsApp, List.append_assoc]
        · exact ha l x
  · exact ha l x
theorem putA_txs (l : List Evt) : ∀ m, txsL (l.foldl putP m) = txsL m ++ txsL l := by
  induction l with
  | nil => intro m; simp [txsL]
  | cons x r ih =>
    intro m
    rw [List.foldl_cons, ih, txsL_put, List.append_assoc]
    rfl
theorem putA_len (l : List Evt) : ∀ m, (l.foldl putP m).length ≤ m.length + l.length := by
  induction l with
  | nil => intro m; simp
  | cons x r ih =>
    intro m
    have h1 := ih (putP m x)
    have h2 := putP_len m x
    rw [List.foldl_cons, List.length_cons]
    omega
theorem putA_ats (l : List Evt) (M : Nat) (h : ∀ e ∈ l, e.at_.length ≤ M) : ∀ m, (∀ e ∈ m, e.at_.length ≤ M) → ∀ e ∈ l.foldl putP m, e.at_.length ≤ M := by
  induction l with
  | nil => intro m hm; exact hm
  | cons x r ih =>
    intro m hm
    rw [List.foldl_cons]
    exact ih (fun e he => h e (List.mem_cons_of_mem _ he)) _ (putP_ats hm (h x (List.mem_cons_self ..)))
theorem txsL_mem {l : List Evt} {e : Evt} (h : e ∈ l) : e.tx.size ≤ (txsL l).length := by
  obtain ⟨a, b, rfl⟩ := List.append_of_mem h
  unfold txsL
  rw [List.flatMap_append, List.flatMap_cons, List.length_append, List.length_append, nums_length]
  omega
/-- of events put one by one: how many they are at most, how long their texts. -/
theorem putA_small {es : List Evt} (h : GreatOk es) (k : Nat) : (putA (es.take k)).length ≤ 300 ∧ (∀ e ∈ putA (es.take k), e.at_.length ≤ 40) ∧ ∀ e ∈ putA (es.take k), e.tx.size ≤ 140737488355000 := by
  refine ⟨?_, ?_, fun e he => ?_⟩
  · have h1 := putA_len (es.take k) []
    have h2 := h.len
    rw [List.length_take] at h1
    unfold putA
    simp only [List.length_nil] at h1
    omega
  · exact putA_ats _ 40 (fun e he => h.ats e (List.mem_of_mem_take he)) [] (fun e he => by cases he)
  · have h1 := txsL_mem he
    unfold putA at h1
    rw [putA_txs] at h1
    have h2 := txsL_le es k
    have h3 := h.txs
    simp only [txsL, List.flatMap_nil, List.nil_append] at h1 h2 h3
    omega
theorem grow_adj {es : List Evt} : ∀ (l : List Evt) (i : Nat) (g gf : Gr), es.drop i = l → grun es i l g = some gf → ∀ (q : Nat) (y : Evt), i ≤ q → es[q]? = some y → y.k = 2 → ¬ (es[q - 1]?).map Evt.k = some 2
  | [], i, g, gf, hd, _, q, y, hq, hy, _ => by
    have h1 := (List.getElem?_eq_some_iff.1 hy).1
    have h2 : (es.drop i).length = 0 := by rw [hd]; rfl
    rw [List.length_drop] at h2
    omega
  | x :: r, i, g, gf, hd, h, q, y, hq, hy, hk => by
    rw [grun] at h
    obtain ⟨g1, h1, h2⟩ := Option.bind_eq_some_iff.1 h
    obtain ⟨hx, hd1⟩ := drop_head hd
    by_cases e : q = i
    · subst e
      rw [hx] at hy
      injection hy with hy
      subst hy
      obtain ⟨op, ends, deep⟩ := g
      obtain ⟨-, -, h3 | h3 | h3⟩ := gstep_iff.1 h1
      · omega
      · exact h3.2.1
      · omega
    · exact grow_adj r (i + 1) g1 gf hd1 h2 q y (by omega) hy hk
/-- whole events are put as they stand. -/
theorem whole_norm {es : List Evt} {g : Gr} (h : growP es = some g) : NormE es := by
  refine ⟨fun k x hx hk => ?_, fun k x y hx hy hh => ?_⟩
  · have h1 := growP_fld h x (List.mem_of_getElem? hx)
    unfold fldB at h1
    rw [if_pos hk] at h1
    simp only [Bool.and_eq_true, Bool.not_eq_true'] at h1
    exact h1.2
  · obtain ⟨h1, -, -⟩ := growP_run h
    refine grow_adj es 0 _ _ rfl h1 (k + 1) y (by omega) hy hh.2 ?_
    rw [Nat.add_sub_cancel, hx, ← hh.1]
    rfl
theorem evsR_nil (B : Nat) (w : World) : EvsR B w (.slice none 0 0) [] := ⟨[], ⟨none, 0, rfl, fun i u h => by simp [evsC] at h⟩, trivial⟩
theorem capR_nil : CapR (.slice none 0 0) 0 := ⟨none, 0, rfl, Nat.le_refl _, Nat.zero_le _⟩
set_option maxRecDepth 100000 in
set_option maxHeartbeats 16000000 in
theorem law_EventsPut (v : Value) (es : List Evt) (w : World) (hl : EvsIn w v es) :
    Calls Try.prog 6 #[v] w fun r w' => r = .returned (.bool true) ∧ Below w.heap.size w w' := by
  have hR := hl.r
  have hZ := hl.small
  have hn := hl.at_.n
  have hcap := hl.cap
  obtain ⟨avs, ⟨a, cap, rfl, -⟩, -⟩ := id hR
  have hb1 := Below.refl w.heap.size w
  have G1 := Lib.hid (ref16_Great w.heap.size es _ w hR (Nat.le_refl _) hn hZ)
  have HW := Lib.hid law_wakes
  have HL := Lib.hid hl
  obtain ⟨n, hnn⟩ : ∃ n, es.length = n := ⟨_, rfl⟩
  have HN := Lib.hid hnn
  rw [hnn] at G1 hR ⊢
  clear hcap hn hZ hl
  go_enter Try.func6, Try.ntmps6
  go_wp2_with fail
  refine (G1.out).mono ?_
  rintro r w2 ⟨b1, rfl, hg1, hb2⟩
  replace hb1 := bt hb1 hb2
  clear hb2 G1
  cases b1 with
  | true =>
    clear hg1 HL hR
    go_wp2_with fail
    refine (HW.out _).mono ?_
    rintro r w9 ⟨rfl, hb9⟩
    go_wp2_with fail
    go_ret
    exact ⟨rfl, bt hb1 hb9⟩
  | false =>
    have ok := hg1 rfl
    have OK := Lib.hid ok
    have hn300 : n ≤ 300 := by rw [← HN.out]; exact ok.len
    clear hg1 hnn ok
    go_wp2_with fail
    go_loopw [3, 4] (fun vm i wr => ∃ k : Nat, i = .int .i64 k ∧ k ≤ n ∧ EvsR wr.heap.size wr vm (putA (es.take k)) ∧ CapR vm (putA (es.take k)).length ∧ Below w.heap.size w wr) (fun _ i _ => n - (intOf i).toNat)
    case atStart => exact ⟨0, rfl, by omega, evsR_nil _ _, capR_nil, hb1⟩
    case round =>
      clear hb1
      obtain ⟨k, rfl, hk, hM, hC, hbl⟩ := hrel
      obtain ⟨hpl, hpa, hpt⟩ := putA_small OK.out k
      by_cases hlt : k < n
      · have hd := decide_eq_true (show (k : Int) < (n : Int) by omega)
        obtain ⟨x, hx⟩ : ∃ x, es[k]? = some x := ⟨_, List.getElem?_eq_getElem (by rw [HN.out]; exact hlt)⟩
        have hxt := (OK.out).at_le (List.mem_of_getElem? hx)
        obtain ⟨b, off, cap', av, hv, hbB, c0, c1, c2, c3, c4, hav⟩ := hR.get hbl (Nat.le_refl _) k x hx
        rw [HN.out] at hv
        cases hv
        obtain ⟨aa, ac, rfl, -⟩ := id hav
        obtain ⟨ma, mc, rfl, -⟩ := id hC
        have hP := events_Put wr.heap.size _ _ x _ wr hM (Nat.le_refl _) (hav.mono hbl.size) hC (by omega) (fun e he => by have := hpt e he; omega) (by omega)
        rw [← putA_snoc es k x hx] at hP
        have HP := Lib.hid hP
        clear hP hM hC hpa hpt hav hx hR
        unfold evV at HP
        go_wp2_with fail
        refine (HP.out).mono ?_
        rintro r w3 ⟨v3, rfl, k1, k2, k3⟩
        go_wp2_with fail
        exact ⟨⟨k + 1, by go_num, by omega, k1, k2, bt hbl k3⟩, by simp [intOf]; omega⟩
      · have hd := decide_eq_false (show ¬ (k : Int) < (n : Int) by omega)
        have hkn : es.take k = es := List.take_of_length_le (by rw [HN.out]; omega)
        rw [hkn] at hM hC hpl hpa hpt
        have hNorm := putA_norm es [] ⟨fun k x h => by simp at h, fun k x y h => by simp at h⟩
        obtain ⟨ms, hms⟩ : ∃ m, putA es = m := ⟨_, rfl⟩
        have hNorm : NormE ms := by rw [← hms]; exact hNorm
        have HMS := Lib.hid hms
        rw [hms] at hM hC hpl hpa hpt
        obtain ⟨ma, mc, rfl, hmc, -⟩ := id hC
        obtain ⟨m, hmm⟩ : ∃ m, ms.length = m := ⟨_, rfl⟩
        have HM := Lib.hid hmm
        have HCM := Lib.hid hC
        rw [hmm] at hM hpl ⊢
        have HPA := Lib.hid hpa
        have HPT := Lib.hid hpt
        clear hmm hms hkn hC hpa hpt
        generalize wr = w3 at *
        go_wp2_with fail
        go_loopw [5, 6] (fun vn i wi => ∃ j : Nat, i = .int .i64 j ∧ j ≤ m ∧ EvsR wi.heap.size wi vn (ms.take j) ∧ CapR vn (ms.take j).length ∧ Below w3.heap.size w3 wi) (fun _ i _ => m - (intOf i).toNat)
        case atStart => exact ⟨0, rfl, by omega, evsR_nil _ _, capR_nil, Below.refl _ _⟩
        case round =>
          obtain ⟨j, rfl, hj, hN, hC, hbi⟩ := hrel
          obtain ⟨na, nc, rfl, -⟩ := id hC
          by_cases hjm : j < m
          · have hd2 := decide_eq_true (show (j : Int) < (m : Int) by omega)
            obtain ⟨x, hx⟩ : ∃ x, ms[j]? = some x := ⟨_, List.getElem?_eq_getElem (by rw [HM.out]; exact hjm)⟩
            have hxt := HPT.out x (List.mem_of_getElem? hx)
            have htk : ms.take (j + 1) = putP (ms.take j) x := by
              have h1 := putA_id hNorm (j + 1) (by rw [HM.out]; omega)
              rw [putA_snoc ms j x hx, putA_id hNorm j (by rw [HM.out]; omega)] at h1
              exact h1.symm
            have hem := hNorm.1 j x hx
            have hadj : 0 < j → ∃ y, ms[j - 1]? = some y ∧ (x.k = 2 → (y.k == 2) = false) := fun h0 => by
              obtain ⟨y, hy⟩ : ∃ y, ms[j - 1]? = some y := ⟨_, List.getElem?_eq_getElem (by rw [HM.out]; omega)⟩
              refine ⟨y, hy, fun hk2 => ?_⟩
              have h2 := hNorm.2 (j - 1) y x hy (by rw [show j - 1 + 1 = j by omega]; exact hx)
              have h3 : ¬ y.k = 2 := fun h => h2 ⟨h, hk2⟩
              simpa using h3
            obtain ⟨b, off, cap', av, hv, hbB, c0, c1, c2, c3, c4, hav⟩ := hM.get hbi (Nat.le_refl _) j x hx
            rw [HM.out] at hv
            cases hv
            obtain ⟨aa, ac, rfl, -⟩ := id hav
            have htkl : (ms.take j).length ≤ 300 := by rw [List.length_take, HM.out]; omega
            have hP := events_Put wr.heap.size _ _ x _ wr hN (Nat.le_refl _) (hav.mono hbi.size) hC (by omega) (fun e he => by have := HPT.out e (List.mem_of_mem_take he); omega) (by omega)
            rw [← htk] at hP
            obtain ⟨tl, htl⟩ : ∃ q, (ms.take j).length = q := ⟨_, rfl⟩
            rw [htl] at hP htkl ⊢
            have HP := Lib.hid hP
            unfold evV at HP
            clear htl
            by_cases hk2 : x.k = 2
            · have q0 : (x.tx.toList == []) = false := by rw [emB_eq]; exact hem hk2
              rcases Nat.eq_zero_or_pos j with h0 | h0
              · subst h0
                rw [hk2] at HP c0
                simp only [Nat.zero_mul, Nat.add_zero] at c0 c1 c2 c3 c4
                clear hP hN hC hav hx hR hem hadj htk hNorm
                go_wp2_with fail
                refine (HP.out).mono ?_
                rintro r w4 ⟨v3, rfl, k1, k2, k3⟩
                go_wp2_with fail
                exact ⟨⟨0 + 1, by go_num, by omega, k1, k2, bt hbi k3⟩, by simp [intOf]; omega⟩
              · obtain ⟨y, hy, hyk⟩ := hadj h0
                have q1 := hyk hk2
                obtain ⟨b', off', cap'', av', hv', -, d0, -⟩ := hM.get hbi (Nat.le_refl _) (j - 1) y hy
                rw [HM.out] at hv'
                cases hv'
                have hd3 := decide_eq_true (show (0 : Int) < (j : Int) by omega)
                have hq2 : ((j : Int) - 1) = ((j - 1 : Nat) : Int) := by omega
                have hq3 : j - 1 < m := by omega
                rw [hk2] at HP c0
                clear hP hN hC hav hx hR hem hadj htk hNorm hy hyk
                go_wp2_with fail
                refine (HP.out).mono ?_
                rintro r w4 ⟨v3, rfl, k1, k2, k3⟩
                go_wp2_with fail
                exact ⟨⟨j + 1, by go_num, by omega, k1, k2, bt hbi k3⟩, by simp [intOf]; omega⟩
            · have q0 : (x.k == 2) = false := by simpa using hk2
              clear hP hN hC hav hx hR hem hadj htk hNorm
              go_wp2_with fail
              refine (HP.out).mono ?_
              rintro r w4 ⟨v3, rfl, k1, k2, k3⟩
              go_wp2_with fail
              exact ⟨⟨j + 1, by go_num, by omega, k1, k2, bt hbi k3⟩, by simp [intOf]; omega⟩
          · have hd2 := decide_eq_false (show ¬ (j : Int) < (m : Int) by omega)
            have hjm2 : ms.take j = ms := List.take_of_length_le (by rw [HM.out]; omega)
            rw [hjm2] at hN hC ⊢
            rw [HM.out] at hN hC ⊢
            have hC : CapR (.slice na m nc) ms.length := by rw [HM.out]; exact hC
            have hS1 := events_Same wr.heap.size ms ms (.slice ma m mc) _ wr (hM.up hbi) hN (Nat.le_refl _) (by rw [HM.out]; omega) (fun e he => by have := HPA.out e he; omega)
            rw [sameP_iff.2 rfl] at hS1
            have hbw := bt hbl hbi
            have hS2 := fun (W : World) (hW : Below wr.heap.size wr W) => events_Whole w.heap.size es (.slice a n cap) W (hR.below (bt hbw hW) (Nat.le_refl _)) (bt hbw hW).size (by rw [HN.out]; omega) (fun e he => by have := OK.out.ats e he; omega)
            have hS3 := fun (W : World) (hW : Below wr.heap.size wr W) => events_Same W.heap.size es ms (.slice a n cap) (.slice ma m mc) W ((hR.below (bt hbw hW) (Nat.le_refl _)).mono (bt hbw hW).size) ((hM.up (bt hbi hW))) (Nat.le_refl _) (by rw [HN.out]; omega) (fun e he => by have := OK.out.ats e he; omega)
            rw [← HN.out] at hS2 hS3
            have S1 := Lib.hid hS1
            rw [HN.out] at hS2 hS3
            have S2 := Lib.hid hS2
            have S3 := Lib.hid hS3
            obtain ⟨R, hR0⟩ : ∃ R, growP es = R := ⟨_, rfl⟩
            rw [hR0] at S2
            have HR0 := Lib.hid hR0
            have hW0 := Below.refl wr.heap.size wr
            clear hS1 hS2 hS3 hN hM hR hNorm hR0 hjm2 hC
            go_wp2_with fail
            refine (S1.out).mono ?_
            rintro r w4 ⟨rfl, hb4⟩
            replace hW0 := bt hW0 hb4
            clear hb4 S1
            go_wp2_with fail
            refine (S2.out _ hW0).mono ?_
            rintro r w5 ⟨rfl, hb5⟩
            replace hW0 := bt hW0 hb5
            clear hb5 S2
            cases R with
            | none =>
              clear S3
              go_wp2_with fail
              refine (HW.out _).mono ?_
              rintro r w9 ⟨rfl, hb9⟩
              go_wp2_with fail
              go_ret
              exact ⟨rfl, bt hbw (bt hW0 hb9)⟩
            | some g =>
              have hem : es = ms := by
                have h1 := whole_norm HR0.out
                have h2 := putA_id h1 es.length (Nat.le_refl _)
                rw [List.take_length, HMS.out] at h2
                exact h2.symm
              have S3 := S3.out
              rw [sameP_iff.2 hem] at S3
              have S3 := Lib.hid S3
              clear hem
              go_wp2_with fail
              refine (S3.out _ hW0).mono ?_
              rintro r w6 ⟨rfl, hb6⟩
              replace hW0 := bt hW0 hb6
              clear hb6 S3
              go_wp2_with fail
              refine (HW.out _).mono ?_
              rintro r w9 ⟨rfl, hb9⟩
              go_wp2_with fail
              go_ret
              exact ⟨rfl, bt hbw (bt hW0 hb9)⟩
end Go.Proofs.Yteefopeclfojiaa
/- 
  Layer 16: the law EventsWrap.
 -/
namespace Go.Proofs.Yteefopeclfojiaa
open Go.RowKit
theorem emB_nums {s : ByteArray} (h : emB s = true) : nums s = [] := by
  unfold emB at h
  rw [ByteArray.toList_eq] at h
  unfold nums
  have : s.data.toList = [] := by simpa using h
  rw [this]
  rfl
theorem fld_end {e : Evt} (h : fldB e = true) (hk : e.k = 1) : nums e.tx = [] := by
  unfold fldB at h
  rw [if_neg (by omega), if_pos hk] at h
  simp only [Bool.and_eq_true] at h
  exact emB_nums h.2
theorem fld_start {e : Evt} (h : fldB e = true) (hk : e.k = 0) : nums e.tx = [] := by
  unfold fldB at h
  rw [if_neg (by omega), if_neg (by omega), if_pos hk] at h
  simp only [Bool.and_eq_true] at h
  exact emB_nums h.2
theorem atP_of {es : List Evt} {g : Gr} (h : growP es = some g) {p j : Nat} (hp : endO g p = some j) : atP es p = some g := by
  obtain ⟨h1, h2, x, y, hx, -, hk, -⟩ := (growP_nest h).1.lt p j hp
  unfold atP
  rw [if_pos ⟨by omega, by omega, by rw [Int.toNat_natCast, hx, ← hk]; rfl⟩, h]
theorem endN_of {g : Gr} {p j : Nat} (h : endO g p = some j) : endN g p = j := by
  unfold endO at h
  unfold endN
  cases hh : aGet g.ends (p : Int) with
  | none => rw [hh] at h; cases h
  | some u =>
    rw [hh] at h
    cases u <;> first | (cases h; rfl) | cases h
theorem textP_of {es : List Evt} {g : Gr} (h : growP es = some g) {p j : Nat} (hp : endO g p = some j) : textP es p = txsL ((es.drop p).take (j - p)) := by
  unfold textP
  rw [atP_of h hp]
  simp only [Int.toNat_natCast, endN_of hp]
theorem kidsP_of {es : List Evt} {g : Gr} (h : growP es = some g) {p j : Nat} (hp : endO g p = some j) : kidsP es p = kidsL (endO g) p j := by
  unfold kidsP
  rw [atP_of h hp]
  simp only [Int.toNat_natCast, endN_of hp]
theorem ownP_of {es : List Evt} {g : Gr} (h : growP es = some g) {p j : Nat} (hp : endO g p = some j) : ownP es p = ownL es (endO g) (p + 1) (kidsL (endO g) p j) ++ segL es (fromK (endO g) (p + 1) (kidsL (endO g) p j)) j := by
  unfold ownP
  rw [atP_of h hp, kidsP_of h hp]
  simp only [Int.toNat_natCast, endN_of hp]
theorem wrap_kids {es : List Evt} {g' : Gr} {n : ByteArray × ByteArray} (h : growP (wrapL n es) = some g') (h0 : endO g' 0 = some (es.length + 1)) (h1 : endO g' 1 = some es.length) (hl : 0 < es.length) : kidsP (wrapL n es) (0 : Int) = [1] := by
  have := kidsP_of h h0
  rw [show ((0 : Nat) : Int) = 0 from rfl] at this
  rw [this]
  unfold kidsL
  rw [kidF, if_pos (by omega), show (0 + 1 : Nat) = 1 from rfl, h1]
  simp only
  rw [kidF_end _ _ _ _ (Nat.le_refl _)]
theorem wrap_text {es : List Evt} {g g' : Gr} {n : ByteArray × ByteArray} (h : growP es = some g) (h' : growP (wrapL n es) = some g') (h0 : endO g' 0 = some (es.length + 1)) : textP (wrapL n es) (0 : Int) = txsL es ∧ textP es (0 : Int) = txsL es := by
  obtain ⟨h1, h2⟩ := growP_last h
  have t1 := textP_of h' h0
  have t2 := textP_of h h1
  rw [show ((0 : Nat) : Int) = 0 from rfl] at t1 t2
  rw [t1, t2]
  constructor
  · unfold wrapL
    rw [List.drop_zero, Nat.sub_zero, List.take_succ_cons, List.take_left']
    · rfl
    · rfl
  · obtain ⟨-, -, x, y, hx, hy, -, hk, -⟩ := (growP_nest h).1.lt 0 _ h1
    rw [List.drop_zero, Nat.sub_zero]
    have h3 := fld_end (growP_fld h y (List.mem_of_getElem? hy)) hk
    have h4 := txsL_snoc es (es.length - 1) y hy
    rw [show es.length - 1 + 1 = es.length by omega, List.take_length, h3, List.append_nil] at h4
    exact h4.symm
theorem wrap_own {es : List Evt} {g' : Gr} {n : ByteArray × ByteArray} (h : growP (wrapL n es) = some g') (h0 : endO g' 0 = some (es.length + 1)) (h1 : endO g' 1 = some es.length) (hl : 0 < es.length) : ownP (wrapL n es) (0 : Int) = [] := by
  have t1 := ownP_of h h0
  have t2 := wrap_kids h h0 h1 hl
  have t3 := kidsP_of h h0
  rw [show ((0 : Nat) : Int) = 0 from rfl] at t1 t3
  rw [t1, ← t3, t2]
  have e1 : fromK (endO g') (0 + 1) [1] = es.length + 1 := by unfold fromK; simp [h1]
  rw [e1]
  simp [ownL, segL, txsL]
theorem wrap_len (n : ByteArray × ByteArray) (es : List Evt) : (wrapL n es).length = es.length + 2 := by unfold wrapL; simp
theorem wrap_drop (n : ByteArray × ByteArray) (es : List Evt) : (wrapL n es).drop 1 = es ++ [⟨1, n, [], ⟨#[]⟩⟩] := rfl
theorem deep_le {es : List Evt} : ∀ (l : List Evt) (i : Nat) (g gf : Gr), grun es i l g = some gf → g.deep ≤ i → g.op.length ≤ i → gf.deep ≤ i + l.length
  | [], i, g, gf, h, h1, _ => by cases h; exact h1
  | x :: r, i, g, gf, h, h1, h2 => by
    rw [grun] at h
    obtain ⟨g1, h3, h4⟩ := Option.bind_eq_some_iff.1 h
    obtain ⟨op, ends, deep⟩ := g
    simp only at h1 h2
    have h5 : g1.deep ≤ i + 1 ∧ g1.op.length ≤ i + 1 := by
      obtain ⟨-, -, h5 | h5 | ⟨-, t, ht, -, h5⟩⟩ := gstep_iff.1 h3
      · rw [h5.2]
        simp only [List.length_append, List.length_singleton]
        omega
      · rw [h5.2.2]
        simp only
        omega
      · rw [h5]
        simp only [List.length_dropLast]
        omega
    have := deep_le r (i + 1) g1 gf h4 h5.1 h5.2
    rw [List.length_cons]
    omega
theorem growP_deep {es : List Evt} {g : Gr} (h : growP es = some g) : g.deep ≤ es.length := by
  have := deep_le es 0 _ _ (growP_run h).1 (Nat.le_refl _) (Nat.le_refl _)
  omega
theorem strOfNums_nil : strOfNums [] = ⟨#[]⟩ := by simp [strOfNums]
theorem txsL_wrap (n : ByteArray × ByteArray) (es : List Evt) : txsL (wrapL n es) = txsL es := by
  have h : nums (⟨#[]⟩ : ByteArray) = [] := by unfold nums; rfl
  unfold wrapL txsL
  rw [List.flatMap_cons, List.flatMap_append]
  simp [h]
theorem wrap_ats {n : ByteArray × ByteArray} {es : List Evt} {M : Nat} (h : ∀ e ∈ es, e.at_.length ≤ M) : ∀ e ∈ wrapL n es, e.at_.length ≤ M := fun e he => by
  unfold wrapL at he
  rcases List.mem_cons.1 he with rfl | he
  · exact Nat.zero_le _
  · rcases List.mem_append.1 he with he | he
    · exact h e he
    · rw [List.mem_singleton.1 he]
      exact Nat.zero_le _
set_option maxRecDepth 100000 in
set_option maxHeartbeats 16000000 in
theorem law_EventsWrap (v : Value) (es : List Evt) (n : ByteArray × ByteArray) (w : World) (hl : EvsIn w v es) (hnm : NmIn n) :
    Calls Try.prog 3 #[v, .agg #[.string n.1, .string n.2]] w fun r w' => r = .returned (.bool true) ∧ Below w.heap.size w w' := by
  have hR := hl.r
  have hZ := hl.small
  have hn := hl.at_.n
  obtain ⟨avs, ⟨a, cap, rfl, -⟩, -⟩ := id hR
  obtain ⟨n1, n2⟩ := n
  have z1 : n1.size ≤ 140737488351232 := hnm.a
  have z2 : n2.size ≤ 140737488351232 := hnm.b
  simp only
  have hb1 := (Below.refl w.heap.size w).alloc (Nat.le_refl _) (.cells #[.string n1, .string n2] 24)
  have bX := BlkAt.new w #[.string n1, .string n2] 24
  have G1 := Lib.hid (fun (W : World) (hW : Below w.heap.size w W) => ref16_Great w.heap.size es _ W (hR.below hW (Nat.le_refl _)) hW.size hn hZ)
  have HW := Lib.hid law_wakes
  have HL := Lib.hid hl
  have HL2 := HL
  obtain ⟨m, hmm⟩ : ∃ m, es.length = m := ⟨_, rfl⟩
  have HM := Lib.hid hmm
  rw [hmm] at G1 hR ⊢
  have HR := Lib.hid hR
  clear hn hZ hl hR hnm
  go_enter Try.func3, Try.ntmps3
  go_wp2_with fail
  refine (G1.out _ hb1).mono ?_
  rintro r w2 ⟨b1, rfl, hg1, hb2⟩
  replace bX := bX.below hb2 bX.lt
  replace hb1 := bt hb1 hb2
  clear hb2 G1
  have wk : ∀ W, Below w.heap.size w W → Calls Try.prog 17 #[] W fun r w' => r = .returned (.bool true) ∧ Below w.heap.size w w' := fun W hW => (HW.out W).mono fun r w' h => ⟨h.1, bt hW h.2⟩
  have WK := Lib.hid wk
  clear wk
  cases b1 with
  | true =>
    clear hg1 HL HR
    go_wp2_with fail
    refine (WK.out _ hb1).mono ?_
    rintro r w9 ⟨rfl, hb9⟩
    go_wp2_with fail
    go_ret
    exact ⟨rfl, hb9⟩
  | false =>
    have ok := hg1 rfl
    have OK := Lib.hid ok
    have hm300 : m ≤ 300 := by rw [← HM.out]; exact ok.len
    clear hg1 hmm ok
    have f0 : w2.cell? ⟨w.heap.size, 0, none⟩ = some (Value.string n1) := bX.cell 0 rfl
    have f1 : w2.cell? ⟨w.heap.size, 1, none⟩ = some (Value.string n2) := bX.cell 1 rfl
    cases hem : emB n2 with
    | true =>
      have q0 : (n2.toList == []) = true := by rw [emB_eq]; exact hem
      clear hem HR HL
      go_wp2_with fail
      refine (WK.out _ hb1).mono ?_
      rintro r w9 ⟨rfl, hb9⟩
      go_wp2_with fail
      go_ret
      exact ⟨rfl, hb9⟩
    | false =>
      have q0 : (n2.toList == []) = false := by rw [emB_eq]; exact hem
      have HEM := Lib.hid hem
      clear hem
      by_cases h200 : n1.size + n2.size ≤ 200
      · have hd0 := decide_eq_false (show ¬ (200 : Int) < (n1.size : Int) + (n2.size : Int) by omega)
        have K1 := Lib.hid (fun (W : World) (hW : Below w.heap.size w W) => events_Whole w.heap.size es (.slice a m cap) W (HR.out.below hW (Nat.le_refl _)) hW.size (by rw [HM.out]; omega) (fun e he => by have := OK.out.ats e he; omega))
        go_wp2_with fail
        refine (K1.out _ hb1).mono ?_
        rintro r w3 ⟨rfl, hb3⟩
        replace bX := bX.below hb3 bX.lt
        replace hb1 := bt hb1 hb3
        clear hb3 f0 f1
        cases hG : growP es with
        | none =>
          clear HR HL K1
          go_wp2_with fail
          refine (WK.out _ hb1).mono ?_
          rintro r w9 ⟨rfl, hb9⟩
          go_wp2_with fail
          go_ret
          exact ⟨rfl, hb9⟩
        | some g =>
          have HG := Lib.hid hG
          clear hG
          have f0 : w3.cell? ⟨w.heap.size, 0, none⟩ = some (Value.string n1) := bX.cell 0 rfl
          have f1 : w3.cell? ⟨w.heap.size, 1, none⟩ = some (Value.string n2) := bX.cell 1 rfl
          have hbs := hb1.size
          have hO0 := OwnE.lit (B := w.heap.size) (base := w3.heap.size) (w := w3) (es := [⟨0, (n1, n2), [], ⟨#[]⟩⟩]) [.slice none 0 0] #[.int .i8 0, .string n1, .string n2, .slice none 0 0, .string ⟨#[]⟩] rfl ⟨nilC _ _, trivial⟩ (Nat.le_refl _) 1 rfl (by decide)
          have hbL := (Below.refl w3.heap.size w3).alloc (Nat.le_refl _) (.cells #[.int .i8 0, .string n1, .string n2, .slice none 0 0, .string ⟨#[]⟩] 30)
          obtain ⟨v1, w4, hr1, hO1, hb4⟩ := hO0.apps (HR.out.below (hb1.trans (hbL.mono hbs)) (Nat.le_refl _)) hbs hbL.size (by rw [HM.out]; simp; omega)
          have hb34 := hbL.trans hb4
          have bX4 := bX.below hb34 bX.lt
          have hbs4 := hb34.size
          have hlen1 : ([⟨0, (n1, n2), [], ⟨#[]⟩⟩] ++ es : List Evt).length = m + 1 := by rw [List.length_append, HM.out]; simp; omega
          obtain ⟨v2, w5, hr2, hO2, hb5⟩ := hO1.app1 ⟨1, (n1, n2), [], ⟨#[]⟩⟩ (.slice none 0 0) (nilC _ _) hbs hbs4 (by rw [hlen1]; omega)
          obtain ⟨y1, l1, c1, hv1⟩ : ∃ a l c, v1 = .slice a l c := by obtain ⟨avs, h1, -⟩ := hO1; exact own_slice h1
          obtain ⟨avs2, hrow2, hats2⟩ := id hO2
          have hw2 : ([⟨0, (n1, n2), [], ⟨#[]⟩⟩] ++ es ++ [⟨1, (n1, n2), [], ⟨#[]⟩⟩] : List Evt) = wrapL (n1, n2) es := rfl
          rw [hw2] at hO2 hrow2 hats2
          obtain ⟨gb, cp2, hv2, hcp2, hgb⟩ : ∃ g cp, v2 = .slice (some ⟨g, 0, none⟩) (m + 2) cp ∧ m + 2 ≤ cp ∧ g < w5.heap.size := by
            have hwl := wrap_len (n1, n2) es
            rw [HM.out] at hwl
            rw [hwl] at hrow2
            rcases hrow2.2 with ⟨-, h1⟩ | ⟨g, cp, cur, h1, h2, h3, h4, -⟩
            · omega
            · exact ⟨g, cp, h1, h4, (Array.getElem?_eq_some_iff.1 h3).1⟩
          subst hv2
          subst hv1
          have hb35 := hb34.trans hb5
          have hb15 := hb1.trans (hb35.mono hbs)
          have hRM := hO2.reads (Nat.le_trans hbs hb35.size)
          have hCM := hO2.cap
          have HR1 := Lib.hid hr1
          have HR2 := Lib.hid hr2
          have g0 : w4.cell? ⟨w.heap.size, 0, none⟩ = some (Value.string n1) := bX4.cell 0 rfl
          have g1 : w4.cell? ⟨w.heap.size, 1, none⟩ = some (Value.string n2) := bX4.cell 1 rfl
          clear hr1 hr2 hO0 hO1 hO2 hats2 hrow2 hb4 hb5 hb34 hb35 bX bX4 hbL
          go_wp2_with first
            | (at_builtin; refine wpList_append_run rfl _ _ _ _ rfl _ _ rfl rfl _ _ HR1.out ?_; clear HR1)
            | (at_builtin; refine wpList_append_run rfl _ _ _ _ rfl _ _ rfl rfl _ _ HR2.out ?_; clear HR2)
          clear f0 f1 g0 g1 hbs hbs4 hlen1 hw2 K1 HL
          obtain ⟨g', G1, G2, G3, G4⟩ := wrap_whole (n1, n2) HEM.out HG.out
          obtain ⟨L1, L2⟩ := growP_last HG.out
          obtain ⟨T1, T2⟩ := wrap_text HG.out G1 G3
          have T3 := wrap_own G1 G3 G4 L2
          have T4 := wrap_kids G1 G3 G4 L2
          have T5 := wrap_len (n1, n2) es
          have T6 := wrap_ats (n := (n1, n2)) OK.out.ats
          have T7 := txsL_wrap (n1, n2) es
          have T8 := growP_deep HG.out
          have T9 := OK.out.txs
          have T10 : atP (wrapL (n1, n2) es) (0 : Int) = some g' := atP_of G1 G3
          have T11 : endV g' (0 : Int) = .int .i64 (es.length + 1 : Nat) := (endV_some (growP_nest G1).2 G3).1
          have T12 := whole_more HG.out ⟨1, (n1, n2), [], ⟨#[]⟩⟩
          have T13 : depP (wrapL (n1, n2) es) = g.deep + 1 := by unfold depP; rw [G1]; exact G2
          have T14 : depP es = g.deep := by unfold depP; rw [HG.out]
          rw [HM.out] at T5 T8 T11
          obtain ⟨M, hM⟩ : ∃ M, wrapL (n1, n2) es = M := ⟨_, rfl⟩
          have hdrop : M.drop 1 = es ++ [⟨1, (n1, n2), [], ⟨#[]⟩⟩] := by rw [← hM]; rfl
          rw [hM] at hRM hCM G1 T1 T3 T4 T5 T6 T7 T10 T13
          obtain ⟨V, hV⟩ : ∃ V, Value.slice (some ⟨gb, 0, none⟩) (m + 2) cp2 = V := ⟨_, rfl⟩
          have hsub := hRM.sub 1 (m + 1) (cp2 - 1) (by rw [T5]; omega)
          rw [hdrop, List.take_of_length_le (by rw [List.length_append, HM.out]; simp)] at hsub
          have A1 := Lib.hid (fun (W : World) (hW : Below w5.heap.size w5 W) => events_Kids w5.heap.size M (.slice (some ⟨gb, 0, none⟩) (m + 2) cp2) 0 W (hRM.below hW (Nat.le_refl _)) hW.size (by omega) (fun e he => by have := T6 e he; omega))
          rw [T4] at A1
          have A2 := Lib.hid (fun (W : World) (hW : Below w5.heap.size w5 W) => events_End w5.heap.size M (.slice (some ⟨gb, 0, none⟩) (m + 2) cp2) 0 W (hRM.below hW (Nat.le_refl _)) hW.size (by omega) (fun e he => by have := T6 e he; omega))
          rw [T10] at A2
          have A3 := Lib.hid (fun (W : World) (hW : Below w5.heap.size w5 W) => events_Whole w5.heap.size M (.slice (some ⟨gb, 0, none⟩) (m + 2) cp2) W (hRM.below hW (Nat.le_refl _)) hW.size (by omega) (fun e he => by have := T6 e he; omega))
          rw [G1] at A3
          have A4 := Lib.hid (fun (W : World) (hW : Below w5.heap.size w5 W) => events_Depth w5.heap.size M (.slice (some ⟨gb, 0, none⟩) (m + 2) cp2) W (hRM.below hW (Nat.le_refl _)) hW.size (by omega) (fun e he => by have := T6 e he; omega))
          rw [T13, Int.natCast_add] at A4
          have A5 := Lib.hid (fun (W : World) (hW : Below w5.heap.size w5 W) => events_Depth w.heap.size es (.slice a m cap) W (HR.out.below (bt hb15 hW) (Nat.le_refl _)) (bt hb15 hW).size (by rw [HM.out]; omega) (fun e he => by have := OK.out.ats e he; omega))
          rw [T14] at A5
          have A6 := Lib.hid (fun (W : World) (hW : Below w5.heap.size w5 W) => events_Text w5.heap.size M (.slice (some ⟨gb, 0, none⟩) (m + 2) cp2) 0 W (hRM.below hW (Nat.le_refl _)) hW.size (by omega) (fun e he => by have := T6 e he; omega) (by rw [T7]; omega) hCM)
          rw [T1] at A6
          have hcl : CapR (.slice a m cap) es.length := by have := HL2.out.cap; rw [HM.out] at this ⊢; exact this
          have A7 := Lib.hid (fun (W : World) (hW : Below w5.heap.size w5 W) => events_Text w.heap.size es (.slice a m cap) 0 W (HR.out.below (bt hb15 hW) (Nat.le_refl _)) (bt hb15 hW).size (by rw [HM.out]; omega) (fun e he => by have := OK.out.ats e he; omega) (by omega) hcl)
          rw [T2] at A7
          have A8 := Lib.hid (fun (W : World) (hW : Below w5.heap.size w5 W) => events_Own w5.heap.size M (.slice (some ⟨gb, 0, none⟩) (m + 2) cp2) 0 W (hRM.below hW (Nat.le_refl _)) hW.size (by omega) (fun e he => by have := T6 e he; omega) (by rw [T7]; omega) hCM)
          rw [T3, strOfNums_nil] at A8
          have A9 := Lib.hid (fun (W : World) (hW : Below w5.heap.size w5 W) => events_Whole w5.heap.size (es ++ [⟨1, (n1, n2), [], ⟨#[]⟩⟩]) (.slice (some ⟨gb, 0 + 1 * 5, none⟩) (m + 1) (cp2 - 1)) W (hsub.below hW (Nat.le_refl _)) hW.size (by rw [List.length_append, HM.out]; simp; omega) (fun e he => by
            rcases List.mem_append.1 he with he | he
            · have := OK.out.ats e he; omega
            · rw [List.mem_singleton.1 he]; exact Nat.zero_le _))
          rw [T12] at A9
          obtain ⟨X, hX⟩ : ∃ X, strOfNums (txsL es) = X := ⟨_, rfl⟩
          rw [hX] at A6 A7
          have T11 := Lib.hid T11
          have hU := Below.refl w5.heap.size w5
          have x1 : (X.toList == X.toList) = true := by simp
          obtain ⟨dp, hdp⟩ : ∃ d, g.deep = d := ⟨_, rfl⟩
          rw [hdp] at A4 A5 T8
          have hmp : 0 < m := by rw [← HM.out]; exact L2
          have hc1 : ¬ cp2 = 1 := by omega
          have hc2 : 1 ≤ m + 2 := by omega
          have hc3 : ((m : Int) + 2 - 1) = (m : Int) + 1 := by omega
          clear G1 G2 G3 G4 L1 L2 T1 T2 T3 T4 T5 T6 T7 T9 T10 T12 T13 T14 hRM hCM hM hdrop hsub hX hdp hV hcl
          refine (A1.out _ hU).mono ?_
          rintro r u1 ⟨ku, rfl, hrow, hb⟩
          replace hU := bt hU hb
          obtain ⟨kg, kc, rfl, hkc⟩ : ∃ g cp, ku = .slice (some ⟨g, 0, none⟩) 1 cp ∧ 1 ≤ cp := by
            rcases hrow.2 with ⟨-, h1⟩ | ⟨g, cp, cur, h1, h2, h3, h4, -⟩
            · simp at h1
            · exact ⟨g, cp, h1, h4⟩
          have HROW := Lib.hid hrow
          clear hrow hb A1
          go_wp2_with fail
          refine (A2.out _ hU).mono ?_
          rintro r u2 ⟨hb, hr⟩
          rw [show r = _ from hr, T11.out]
          have HROW2 := Lib.hid (own_below HROW.out hb (Nat.le_refl _))
          replace hU := bt hU hb
          clear hr hb A2 HROW
          go_wp2_with fail
          refine (A3.out _ hU).mono ?_
          rintro r u3 ⟨rfl, hb⟩
          have HROW := Lib.hid (own_below HROW2.out hb (Nat.le_refl _))
          replace hU := bt hU hb
          clear hb A3 HROW2
          go_wp2_with fail
          refine (A4.out _ hU).mono ?_
          rintro r u4 ⟨rfl, hb⟩
          have HROW2 := Lib.hid (own_below HROW.out hb (Nat.le_refl _))
          replace hU := bt hU hb
          clear hb A4 HROW
          go_wp2_with fail
          refine (A5.out _ hU).mono ?_
          rintro r u5 ⟨rfl, hb⟩
          have HROW := Lib.hid (own_below HROW2.out hb (Nat.le_refl _))
          replace hU := bt hU hb
          clear hb A5 HROW2
          have kcell : u5.cell? ⟨kg, 0, none⟩ = some (.int .i64 1) := by
            have h1 := HROW.out.cells (g := kg) rfl 0 (.int .i64 1) rfl
            rwa [addr0] at h1
          clear HROW
          go_wp2_with fail
          refine (A6.out _ hU).mono ?_
          rintro r u6 ⟨rfl, hb⟩
          replace hU := bt hU hb
          clear hb A6 kcell
          go_wp2_with fail
          refine (A7.out _ hU).mono ?_
          rintro r u7 ⟨rfl, hb⟩
          replace hU := bt hU hb
          clear hb A7
          go_wp2_with fail
          refine (A8.out _ hU).mono ?_
          rintro r u8 ⟨rfl, hb⟩
          replace hU := bt hU hb
          clear hb A8
          go_wp2_with fail
          refine (A9.out _ hU).mono ?_
          rintro r u9 ⟨rfl, hb⟩
          replace hU := bt hU hb
          clear hb A9
          go_wp2_with fail
          refine (WK.out _ (bt hb15 hU)).mono ?_
          rintro r w9 ⟨rfl, hb9⟩
          go_wp2_with fail
          go_ret
          exact ⟨rfl, hb9⟩
      · have hd0 := decide_eq_true (show (200 : Int) < (n1.size : Int) + (n2.size : Int) by omega)
        clear HR HL
        go_wp2_with fail
        refine (WK.out _ hb1).mono ?_
        rintro r w9 ⟨rfl, hb9⟩
        go_wp2_with fail
        go_ret
        exact ⟨rfl, hb9⟩
end Go.Proofs.Yteefopeclfojiaa
/- 
  Layer 16 in plain terms: how children lie within their element.
 -/
namespace Go.Proofs.Yteefopeclfojiaa
open Go.RowKit
theorem fromK_nil (E : Nat → Option Nat) (k : Nat) : fromK E k [] = k := rfl
theorem fromK_any (E : Nat → Option Nat) (k k' : Nat) {pre : List Nat} (h : pre ≠ []) : fromK E k pre = fromK E k' pre := by
  unfold fromK
  cases hp : pre.getLast? with
  | none => rw [List.getLast?_eq_none_iff] at hp; exact absurd hp h
  | some x => rfl
/-- between children no element begins. -/
theorem kidF_gap {E : Nat → Option Nat} {e : Nat} : ∀ (f k : Nat) (pre : List Nat) (x : Nat), (pre ++ [x]) <+: kidF E e f k → ∀ q, fromK E k pre ≤ q → q < x → E q = none
  | 0, k, pre, x, h => by have := h.length_le; simp [kidF] at this
  | f + 1, k, pre, x, h => by
    rw [kidF] at h
    split at h
    · split at h
      · rename_i j hj
        cases pre with
        | nil =>
          obtain ⟨t, ht⟩ := h
          injection ht with h1 h2
          intro q hq hx
          rw [fromK_nil] at hq
          omega
        | cons y r =>
          obtain ⟨t, ht⟩ := h
          injection ht with h1 h2
          subst h1
          rw [fromK_cons E y y j r hj]
          exact kidF_gap f (j + 1) r x ⟨t, h2⟩
      · rename_i hj
        have ih := kidF_gap f (k + 1) pre x h
        by_cases hp : pre = []
        · subst hp
          intro q hq hx
          rw [fromK_nil] at hq ih
          by_cases e2 : q = k
          · rw [e2]; exact hj
          · exact ih q (by omega) hx
        · rw [fromK_any E k (k + 1) hp]
          exact ih
    · have := h.length_le
      simp at this
/-- what begins ahead of the place behind some children ends ahead of it. -/
theorem kidF_done {E : Nat → Option Nat} {e : Nat} (hlt : ∀ p j, E p = some j → p < j) (hlam : ∀ p j p' j' : Nat, E p = some j → E p' = some j' → p < p' → j < p' ∨ j' < j) : ∀ (f k : Nat) (pre : List Nat), pre <+: kidF E e f k → ∀ q j, k ≤ q → q < fromK E k pre → E q = some j → j < fromK E k pre
  | 0, k, pre, h => by
    have : pre = [] := List.eq_nil_of_length_eq_zero (by have := h.length_le; simpa [kidF] using this)
    subst this
    intro q j h1 h2
    rw [fromK_nil] at h2
    omega
  | f + 1, k, [], _ => by
    intro q j h1 h2
    rw [fromK_nil] at h2
    omega
  | f + 1, k, y :: r, h => by
    rw [kidF] at h
    split at h
    · split at h
      · rename_i j0 hj
        obtain ⟨t, ht⟩ := h
        injection ht with h1 h2
        subst h1
        have ih := kidF_done hlt hlam f (j0 + 1) r ⟨t, h2⟩
        rw [fromK_cons E y y j0 r hj]
        have hge : j0 + 1 ≤ fromK E (j0 + 1) r := by
          by_cases hr : r = []
          · subst hr; exact Nat.le_refl _
          · obtain ⟨ini, z, rfl⟩ : ∃ ini z, r = ini ++ [z] := ⟨r.dropLast, r.getLast hr, (List.dropLast_concat_getLast hr).symm⟩
            obtain ⟨h3, h4, h5, jz, h6⟩ := kidF_pre hlt f (j0 + 1) ini z ⟨t, h2⟩
            rw [fromK_snoc E _ _ _ _ h6]
            have := hlt _ _ h6
            omega
        intro q j h3 h4 h5
        by_cases e1 : q = y
        · subst e1
          rw [hj] at h5
          injection h5 with h5
          omega
        · rcases Nat.lt_or_ge j0 q with h6 | h6
          · exact ih q j (by omega) h4 h5
          · rcases hlam y j0 q j hj h5 (by omega) with h7 | h7 <;> omega
      · rename_i hj
        have ih := kidF_done hlt hlam f (k + 1) (y :: r) h
        rw [fromK_any E k (k + 1) (by simp)]
        intro q j h3 h4 h5
        by_cases e1 : q = k
        · subst e1
          rw [hj] at h5
          cases h5
        · exact ih q j (by omega) h4 h5
    · have := h.length_le
      simp at this
theorem fromK_ge {E : Nat → Option Nat} {e : Nat} (hlt : ∀ p j, E p = some j → p < j) (f k : Nat) (pre : List Nat) (h : pre <+: kidF E e f k) : k ≤ fromK E k pre := by
  by_cases hr : pre = []
  · subst hr; exact Nat.le_refl _
  · obtain ⟨ini, z, rfl⟩ : ∃ ini z, pre = ini ++ [z] := ⟨pre.dropLast, pre.getLast hr, (List.dropLast_concat_getLast hr).symm⟩
    obtain ⟨h3, h4, h5, jz, h6⟩ := kidF_pre hlt f k ini z h
    rw [fromK_snoc E _ _ _ _ h6]
    have := hlt _ _ h6
    omega
theorem segL_add {es : List Evt} {a b c : Nat} (h1 : a ≤ b) (h2 : b ≤ c) : segL es a b ++ segL es b c = segL es a c := by
  unfold segL
  rw [← txsL_append]
  congr 1
  rw [show c - a = (b - a) + (c - b) by omega, List.take_add, List.drop_drop, show a + (b - a) = b by omega]
theorem segL_step {es : List Evt} {a b : Nat} (h : a ≤ b) {x : Evt} (hx : es[b]? = some x) : segL es a (b + 1) = segL es a b ++ nums x.tx := by
  rw [← segL_add h (Nat.le_succ b)]
  congr 1
  unfold segL
  rw [show b + 1 - b = 1 by omega]
  have h1 : es.drop b = x :: es.drop (b + 1) := by
    obtain ⟨e1, e2⟩ := List.getElem?_eq_some_iff.1 hx
    rw [← e2, List.drop_eq_getElem_cons e1]
  rw [h1]
  simp [txsL]
theorem segL_same (es : List Evt) (a : Nat) : segL es a a = [] := by unfold segL; simp [txsL]
/-- a child among its fellows. -/
structure KidAt (es : List Evt) (E : Nat → Option Nat) (p e : Nat) (pre : List Nat) (x jx : Nat) : Prop where
  from_ : p + 1 ≤ fromK E (p + 1) pre
  le : fromK E (p + 1) pre ≤ x
  hE : E x = some jx
  lt : x < jx
  end_ : jx < e
  text : ∀ q, fromK E (p + 1) pre ≤ q → q < x → ∃ y, es[q]? = some y ∧ y.k = 2
  gap : ∀ q, fromK E (p + 1) pre ≤ q → q < x → E q = none
  done : ∀ q j, p < q → q < fromK E (p + 1) pre → E q = some j → j < fromK E (p + 1) pre
theorem kidAt {es : List Evt} {E : Nat → Option Nat} {p e : Nat} (hN : Nest es E) (hp : E p = some e) {k x : Nat} (hk : (kidsL E p e)[k]? = some x) : ∃ jx, KidAt es E p e ((kidsL E p e).take k) x jx := by
  have hlt : ∀ p j, E p = some j → p < j := fun p j h => (hN.lt p j h).1
  have hpre : ((kidsL E p e).take k ++ [x]) <+: kidF E e e (p + 1) := by
    have : (kidsL E p e).take (k + 1) = (kidsL E p e).take k ++ [x] := by rw [List.take_add_one, hk]; rfl
    rw [← this]
    exact List.take_prefix _ _
  have hpre2 : ((kidsL E p e).take k) <+: kidF E e e (p + 1) := List.take_prefix _ _
  obtain ⟨h1, h2, h3, jx, h4⟩ := kidF_pre hlt e (p + 1) _ x hpre
  have hgap := kidF_gap e (p + 1) _ x hpre
  have hdone := kidF_done hlt hN.lam e (p + 1) _ hpre2
  have hf := fromK_ge hlt e (p + 1) _ hpre2
  have hpe := hN.lt p e hp
  refine ⟨jx, hf, h1, h4, hlt _ _ h4, ?_, fun q hq hqx => ?_, hgap, fun q j hq => hdone q j hq⟩
  · rcases hN.lam p e x jx hp h4 (by omega) with h5 | h5 <;> omega
  · obtain ⟨y, hy⟩ : ∃ y, es[q]? = some y := ⟨_, List.getElem?_eq_getElem (by omega)⟩
    refine ⟨y, hy, ?_⟩
    by_cases h0 : y.k = 0
    · obtain ⟨j, hj⟩ := (hN.start q).1 (by rw [hy, ← h0]; rfl)
      rw [hgap q hq hqx] at hj
      cases hj
    · by_cases h2 : y.k = 2
      · exact h2
      · obtain ⟨r, hr⟩ := hN.surj q y hy h0 h2
        exfalso
        have hrq := hlt r q hr
        rcases Nat.lt_trichotomy r p with h5 | h5 | h5
        · rcases hN.lam r q p e hr hp h5 with h6 | h6 <;> omega
        · subst h5
          rw [hp] at hr
          injection hr with hr
          omega
        · rcases Nat.lt_or_ge r (fromK E (p + 1) ((kidsL E p e).take k)) with h6 | h6
          · have := hdone r q (by omega) h6 hr
            omega
          · rw [hgap r h6 (by omega)] at hr
            cases hr
theorem pathK_congr {E : Nat → Option Nat} {p x : Nat} : ∀ n, (∀ q j, q < n → E q = some j → (x ≤ j ↔ p ≤ j)) → pathK E x n = pathK E p n
  | 0, _ => rfl
  | n + 1, h => by
    rw [pathK, pathK, pathK_congr n fun q j hq => h q j (by omega)]
    congr 1
    cases hE : E n with
    | none => rfl
    | some j =>
      have := h n j (by omega) hE
      simp only
      by_cases h1 : x ≤ j
      · rw [if_pos h1, if_pos (this.1 h1)]
      · rw [if_neg h1, if_neg fun h2 => h1 (this.2 h2)]
theorem pathK_skip {E : Nat → Option Nat} {x m : Nat} : ∀ n, (∀ q j, m ≤ q → q < m + n → E q = some j → ¬ x ≤ j) → pathK E x (m + n) = pathK E x m
  | 0, _ => rfl
  | n + 1, h => by
    rw [← Nat.add_assoc, pathK, pathK_skip n fun q j h1 h2 => h q j h1 (by omega)]
    cases hE : E (m + n) with
    | none => rw [List.append_nil]
    | some j =>
      simp only
      rw [if_neg (h (m + n) j (by omega) (by omega) hE), List.append_nil]
/-- a child's path is its element's and one more. -/
theorem pathK_kid {es : List Evt} {E : Nat → Option Nat} {p e x jx : Nat} {pre : List Nat} (hN : Nest es E) (hp : E p = some e) (h : KidAt es E p e pre x jx) : pathK E x (x + 1) = pathK E p (p + 1) ++ [x] := by
  have h0 := h.from_
  have h1 := h.le
  have h2 := h.lt
  have h3 := h.end_
  rw [pathK, h.hE]
  simp only
  rw [if_pos (Nat.le_of_lt h2)]
  congr 1
  rw [show x = (p + 1) + (x - (p + 1)) by omega, pathK_skip, show (p + 1) + (x - (p + 1)) = x by omega]
  · refine pathK_congr (p + 1) fun q j hq hj => ?_
    by_cases e1 : q = p
    · subst e1
      rw [hp] at hj
      injection hj with hj
      omega
    · rcases hN.lam q j p e hj hp (by omega) with h4 | h4 <;> omega
  · intro q j h4 h5 h6
    rcases Nat.lt_or_ge q (fromK E (p + 1) pre) with h7 | h7
    · have := h.done q j (by omega) h7 h6
      omega
    · rw [h.gap q h7 (by omega)] at h6
      cases h6
end Go.Proofs.Yteefopeclfojiaa
