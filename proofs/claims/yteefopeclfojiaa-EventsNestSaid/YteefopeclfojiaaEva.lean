/-
  Layer 16: the law EventsTell.
-/
import Derived.Test.YteefopeclfojiaaEvX
import Derived.Test.YteefopeclfojiaaEvI
import Derived.Test.YteefopeclfojiaaEvR
import Derived.Deep.RegionHeld3
namespace Go.Proofs.Yteefopeclfojiaa
open Go.RowKit
theorem putP_len (es : List Evt) (x : Evt) : (putP es x).length ≤ es.length + 1 := by
  unfold putP
  split
  · split
    · omega
    · split
      · rw [List.length_append]; simp
      · split
        · rw [List.length_append, List.length_dropLast]; simp
        · rw [List.length_append]; simp
  · rw [List.length_append]; simp
theorem putP_ats {es : List Evt} {x : Evt} {m : Nat} (h : ∀ e ∈ es, e.at_.length ≤ m) (hx : x.at_.length ≤ m) : ∀ e ∈ putP es x, e.at_.length ≤ m := by
  have h1 : ∀ e ∈ es ++ [x], e.at_.length ≤ m := fun e he => by
    rcases List.mem_append.1 he with he | he
    · exact h e he
    · rw [List.mem_singleton.1 he]; exact hx
  unfold putP
  split
  · split
    · exact h
    · split
      · exact h1
      · rename_i e he
        split
        · intro y hy
          rcases List.mem_append.1 hy with hy | hy
          · exact h y (List.dropLast_subset _ hy)
          · rw [List.mem_singleton.1 hy]
            exact h e (List.mem_of_getLast? he)
        · exact h1
  · exact h1
theorem bt2 {q : Nat} {w a b : World} (h : Below q w a) (hq : Hid (w.heap.size = q)) (hb : Below a.heap.size a b) : Below q w b := by
  have := hq.out
  subst this
  exact bt h hb
set_option maxRecDepth 100000 in
set_option maxHeartbeats 16000000 in
theorem law_EventsTell (v : Value) (es : List Evt) (u : Value) (ms : List Evt) (x : Evt) (av : Value) (w : World) (hl : EvsIn w v es) (hm : EvsIn w u ms) (hx : EvIn w x av) :
    Calls Try.prog 5 #[v, u, evV x av] w fun r w' => r = .returned (.bool true) ∧ Below w.heap.size w w' := by
  have hR := hl.r
  have hM := hm.r
  have hZ := hl.small
  have hZm := hm.small
  have hn := hl.at_.n
  have hnm := hm.at_.n
  have hcap := hl.cap
  obtain ⟨avs, ⟨a, cap, rfl, -⟩, -⟩ := id hR
  obtain ⟨bvs, ⟨c, cp, rfl, -⟩, -⟩ := id hM
  obtain ⟨aa, ac, rfl, -⟩ := id hx.r
  obtain ⟨k, ⟨n1, n2⟩, ats, tx⟩ := x
  have HX := Lib.hid (hx.r)
  have hxz := hx.z
  simp only [evV] at *
  have hb1 := (Below.refl w.heap.size w).alloc (Nat.le_refl _) (.cells #[.int .i8 k, .string n1, .string n2, .slice aa ats.length ac, .string tx] 30)
  have bX := BlkAt.new w #[.int .i8 k, .string n1, .string n2, .slice aa ats.length ac, .string tx] 30
  have G1 := Lib.hid (fun (W : World) (hW : Below w.heap.size w W) => ref16_Great w.heap.size es _ W (hR.below hW (Nat.le_refl _)) hW.size hn hZ)
  have G2 := Lib.hid (fun (W : World) (hW : Below w.heap.size w W) => ref16_Great w.heap.size ms _ W (hM.below hW (Nat.le_refl _)) hW.size hnm hZm)
  have HW := Lib.hid law_wakes
  have HL := Lib.hid (And.intro hl (And.intro hm hx))
  clear hR hM hl hm hx hZ hZm hcap hxz hn hnm
  go_enter Try.func5, Try.ntmps5
  go_wp2_with fail
  refine (G1.out _ hb1).mono ?_
  rintro r w2 ⟨b1, rfl, hg1, hb2⟩
  replace bX := bX.below hb2 bX.lt
  replace hb1 := bt hb1 hb2
  clear hb2 G1
  cases b1 with
  | true =>
    clear hg1 HX G2 HL
    go_wp2_with fail
    refine (HW.out _).mono ?_
    rintro r w9 ⟨rfl, hb9⟩
    go_wp2_with fail
    go_ret
    exact ⟨rfl, bt hb1 hb9⟩
  | false =>
    have O1 := Lib.hid (hg1 rfl)
    clear hg1
    go_wp2_with fail
    refine (G2.out _ hb1).mono ?_
    rintro r w3 ⟨b2, rfl, hg2, hb2⟩
    replace bX := bX.below hb2 bX.lt
    replace hb1 := bt hb1 hb2
    clear hb2 G2
    cases b2 with
    | true =>
      clear hg2 HX HL
      go_wp2_with fail
      refine (HW.out _).mono ?_
      rintro r w9 ⟨rfl, hb9⟩
      go_wp2_with fail
      go_ret
      exact ⟨rfl, bt hb1 hb9⟩
    | false =>
      have O2 := Lib.hid (hg2 rfl)
      clear hg2
      have f0 : w3.cell? ⟨w.heap.size, 0, none⟩ = some (Value.int .i8 k) := bX.cell 0 rfl
      have f1 : w3.cell? ⟨w.heap.size, 1, none⟩ = some (Value.string n1) := bX.cell 1 rfl
      have f2 : w3.cell? ⟨w.heap.size, 2, none⟩ = some (Value.string n2) := bX.cell 2 rfl
      have f3 : w3.cell? ⟨w.heap.size, 3, none⟩ = some (Value.slice aa ats.length ac) := bX.cell 3 rfl
      have f4 : w3.cell? ⟨w.heap.size, 4, none⟩ = some (Value.string tx) := bX.cell 4 rfl
      go_wp2_with fail
      have hO := OwnE.lit (B := w3.heap.size) (base := w3.heap.size) (w := w3) (es := [⟨k, (n1, n2), ats, tx⟩]) [.slice aa ats.length ac] #[.int .i8 k, .string n1, .string n2, .slice aa ats.length ac, .string tx] rfl
        ⟨((HX.out.below hb1 (Nat.le_refl _)).mono hb1.size).below ((Below.refl _ w3).alloc (Nat.le_refl _) _) (Nat.le_refl _), trivial⟩ (Nat.le_refl _) 1 rfl (by decide)
      have hb2 := hb1.alloc hb1.size (.cells #[.int .i8 k, .string n1, .string n2, .slice aa ats.length ac, .string tx] 30)
      have bX2 := bX.alloc (.cells #[.int .i8 k, .string n1, .string n2, .slice aa ats.length ac, .string tx] 30)
      have hRX := hO.reads (by simp)
      clear hO bX hb1 f0 f1 f2 f3 f4
      generalize hw4 : w3.alloc (.cells #[.int .i8 k, .string n1, .string n2, .slice aa ats.length ac, .string tx] 30) = w4 at bX2 hb2 hRX ⊢
      clear hw4
      refine (ref16_Great w4.heap.size [⟨k, (n1, n2), ats, tx⟩] _ w4 hRX (Nat.le_refl _) (by simp) (fun e he => by
        rw [List.mem_singleton.1 he]
        obtain ⟨h1, h2, h3, h4, h5, h6⟩ := HL.out.2.2.z
        exact ⟨h3, h1, h2, h4, h5⟩)).mono ?_
      rintro r w5 ⟨b3, rfl, hg3, hb5⟩
      have bX := bX2.below hb5 bX2.lt
      have hb1 := bt hb2 hb5
      clear hb2 hb5 bX2 hRX
      cases b3 with
      | true =>
        clear hg3 HX HL
        go_wp2_with fail
        refine (HW.out _).mono ?_
        rintro r w9 ⟨rfl, hb9⟩
        go_wp2_with fail
        go_ret
        exact ⟨rfl, bt hb1 hb9⟩
      | false =>
        have ok1 := O1.out
        have ok2 := O2.out
        have ok3 := hg3 rfl
        obtain ⟨hl, hm, hx⟩ := HL.out
        have hR := hl.r
        have hM := hm.r
        have hX := hx.r
        have hcap := hl.cap
        have at1 := ok1.ats
        have at2 := ok2.ats
        have hxa : ats.length ≤ 40 := ok3.ats ⟨k, (n1, n2), ats, tx⟩ (List.mem_singleton.2 rfl)
        have hlen := ok1.len
        have K1 := Lib.hid (fun (W : World) (hW : Below w.heap.size w W) => events_Whole w.heap.size es _ W (hR.below hW (Nat.le_refl _)) hW.size (by omega) fun e he => by have := at1 e he; omega)
        have K2 := Lib.hid (fun (W : World) (hW : Below w.heap.size w W) => ref16_Whole w.heap.size es _ W (hR.below hW (Nat.le_refl _)) hW.size (by omega) fun e he => by have := at1 e he; omega)
        have K3 := Lib.hid (fun (W : World) (hW : Below w.heap.size w W) => events_Depth w.heap.size es _ W (hR.below hW (Nat.le_refl _)) hW.size (by omega) fun e he => by have := at1 e he; omega)
        have K4 := Lib.hid (fun (W : World) (hW : Below w.heap.size w W) => ref16_Depth w.heap.size es _ W (hR.below hW (Nat.le_refl _)) hW.size (by omega) fun e he => by have := at1 e he; omega)
        have K5 := Lib.hid (fun (W : World) (hW : Below w.heap.size w W) => events_Same w.heap.size es ms _ _ W (hR.below hW (Nat.le_refl _)) (hM.below hW (Nat.le_refl _)) hW.size (by omega) fun e he => by have := at1 e he; omega)
        have K6 := Lib.hid (fun (W : World) (hW : Below w.heap.size w W) => ref16_Same w.heap.size es ms _ _ W (hR.below hW (Nat.le_refl _)) (hM.below hW (Nat.le_refl _)) hW.size (by omega) fun e he => by have := at1 e he; omega)
        have K7 := Lib.hid (fun (W : World) (hW : Below w.heap.size w W) => events_Put w.heap.size es _ ⟨k, (n1, n2), ats, tx⟩ _ W (hR.below hW (Nat.le_refl _)) hW.size (hX.below hW (Nat.le_refl _)) hcap (by omega) (fun e he => by have := ok1.at_le he; omega) (by have : tx.size ≤ 140737488351232 := hx.z.2.2.1; show tx.size ≤ _; omega))
        have K8 := Lib.hid (fun (W : World) (hW : Below w.heap.size w W) => ref16_Put w.heap.size es _ ⟨k, (n1, n2), ats, tx⟩ _ W (hR.below hW (Nat.le_refl _)) hW.size (hX.below hW (Nat.le_refl _)) hcap (by omega) (fun e he => by have := ok1.at_le he; omega) (by have : tx.size ≤ 140737488351232 := hx.z.2.2.1; show tx.size ≤ _; omega))
        obtain ⟨PP, hPP⟩ : ∃ P, putP es ⟨k, (n1, n2), ats, tx⟩ = P := ⟨_, rfl⟩
        have hp1 := putP_len es ⟨k, (n1, n2), ats, tx⟩
        have hp2 := putP_ats (x := ⟨k, (n1, n2), ats, tx⟩) at1 hxa
        rw [hPP] at hp1 hp2
        rw [hPP] at K7 K8
        have K9 := Lib.hid (fun (W : World) (v1 v2 : Value) (h1 : EvsR W.heap.size W v1 PP) (h2 : EvsR W.heap.size W v2 PP) => ref16_Same W.heap.size PP PP v1 v2 W h1 h2 (Nat.le_refl _) (by omega) fun e he => by have := hp2 e he; omega)
        rw [sameP_iff.2 rfl] at K9
        obtain ⟨bw, hbw⟩ : ∃ b, (growP es).isSome = b := ⟨_, rfl⟩
        obtain ⟨dp, hdp⟩ : ∃ d, depP es = d := ⟨_, rfl⟩
        obtain ⟨sm, hsm⟩ : ∃ s, sameP es ms = s := ⟨_, rfl⟩
        rw [hbw] at K1 K2
        rw [hdp] at K3 K4
        rw [hsm] at K5 K6
        unfold evV at K7 K8
        simp only at K7 K8
        have e1 : (bw == bw) = true := by simp
        have e2 : ((dp : Int) == (dp : Int)) = true := by simp
        have e3 : (sm == sm) = true := by simp
        clear hl hm hx hR hM hX hcap at1 at2 hxa hlen hbw hdp hsm hPP hp1 hp2 ok1 ok2 ok3 O1 O2 HX HL hg3
        replace bX := bX.below (Below.refl w5.heap.size w5).drew bX.lt
        replace hb1 := hb1.drew
        generalize hpw : w.heap.size = q at bX
        have f0 : w5.drew.cell? ⟨q, 0, none⟩ = some (Value.int .i8 k) := bX.cell 0 rfl
        have f1 : w5.drew.cell? ⟨q, 1, none⟩ = some (Value.string n1) := bX.cell 1 rfl
        have f2 : w5.drew.cell? ⟨q, 2, none⟩ = some (Value.string n2) := bX.cell 2 rfl
        have f3 : w5.drew.cell? ⟨q, 3, none⟩ = some (Value.slice aa ats.length ac) := bX.cell 3 rfl
        have f4 : w5.drew.cell? ⟨q, 4, none⟩ = some (Value.string tx) := bX.cell 4 rfl
        have hq := Lib.hid hpw
        rw [hpw] at hb1 K1 K2 K3 K4 K5 K6 K7 K8
        clear hpw
        go_wp2_with fail
        go_region_held3 (fun w' => w'.cell? ⟨q, 0, none⟩ = some (Value.int .i8 k) ∧ w'.cell? ⟨q, 1, none⟩ = some (Value.string n1) ∧ w'.cell? ⟨q, 2, none⟩ = some (Value.string n2) ∧ w'.cell? ⟨q, 3, none⟩ = some (Value.slice aa ats.length ac) ∧ w'.cell? ⟨q, 4, none⟩ = some (Value.string tx)) (first | go_keep | exact ⟨f0, f1, f2, f3, f4⟩) (first
          | (go_at_call 16; refine (K1.out _ hb1).mono ?_; rintro r w7 ⟨rfl, hb⟩; have bX := bX.below hb bX.lt; have hb1 := bt2 hb1 hq hb; have f0 := bX.cell 0 rfl; have f1 := bX.cell 1 rfl; have f2 := bX.cell 2 rfl; have f3 := bX.cell 3 rfl; have f4 := bX.cell 4 rfl)
          | (go_at_call 24; refine (K2.out _ hb1).mono ?_; rintro r w7 ⟨rfl, hb⟩; have bX := bX.below hb bX.lt; have hb1 := bt2 hb1 hq hb; have f0 := bX.cell 0 rfl; have f1 := bX.cell 1 rfl; have f2 := bX.cell 2 rfl; have f3 := bX.cell 3 rfl; have f4 := bX.cell 4 rfl)
          | (go_at_call 20; refine (K3.out _ hb1).mono ?_; rintro r w7 ⟨rfl, hb⟩; have bX := bX.below hb bX.lt; have hb1 := bt2 hb1 hq hb; have f0 := bX.cell 0 rfl; have f1 := bX.cell 1 rfl; have f2 := bX.cell 2 rfl; have f3 := bX.cell 3 rfl; have f4 := bX.cell 4 rfl)
          | (go_at_call 25; refine (K4.out _ hb1).mono ?_; rintro r w7 ⟨rfl, hb⟩; have bX := bX.below hb bX.lt; have hb1 := bt2 hb1 hq hb; have f0 := bX.cell 0 rfl; have f1 := bX.cell 1 rfl; have f2 := bX.cell 2 rfl; have f3 := bX.cell 3 rfl; have f4 := bX.cell 4 rfl)
          | (go_at_call 26; refine (K5.out _ hb1).mono ?_; rintro r w7 ⟨rfl, hb⟩; have bX := bX.below hb bX.lt; have hb1 := bt2 hb1 hq hb; have f0 := bX.cell 0 rfl; have f1 := bX.cell 1 rfl; have f2 := bX.cell 2 rfl; have f3 := bX.cell 3 rfl; have f4 := bX.cell 4 rfl)
          | (go_at_call 27; refine (K6.out _ hb1).mono ?_; rintro r w7 ⟨rfl, hb⟩; clear K6; have bX := bX.below hb bX.lt; have hb1 := bt2 hb1 hq hb; have f0 := bX.cell 0 rfl; have f1 := bX.cell 1 rfl; have f2 := bX.cell 2 rfl; have f3 := bX.cell 3 rfl; have f4 := bX.cell 4 rfl)
          | (go_at_call 28; refine (K7.out _ hb1).mono ?_; rintro r w7 ⟨v1, rfl, R1, -, hb⟩; have bX := bX.below hb bX.lt; have hb1 := bt2 hb1 hq hb; have f0 := bX.cell 0 rfl; have f1 := bX.cell 1 rfl; have f2 := bX.cell 2 rfl; have f3 := bX.cell 3 rfl; have f4 := bX.cell 4 rfl)
          | (go_at_call 29; refine (K8.out _ hb1).mono ?_; rintro r w7 ⟨v2, rfl, R2, -, hb⟩; have R1 := R1.up hb; have bX := bX.below hb bX.lt; have hb1 := bt2 hb1 hq hb; have f0 := bX.cell 0 rfl; have f1 := bX.cell 1 rfl; have f2 := bX.cell 2 rfl; have f3 := bX.cell 3 rfl; have f4 := bX.cell 4 rfl)
          | (go_at_call 27; refine (K9.out _ _ _ R1 R2).mono ?_; rintro r w7 ⟨rfl, hb⟩; have bX := bX.below hb bX.lt; have hb1 := bt2 hb1 hq hb; have f0 := bX.cell 0 rfl; have f1 := bX.cell 1 rfl; have f2 := bX.cell 2 rfl; have f3 := bX.cell 3 rfl; have f4 := bX.cell 4 rfl)
          | (go_at_call 17; refine (HW.out _).mono ?_; rintro r w7 ⟨rfl, hb⟩; have bX := bX.below hb bX.lt; have hb1 := bt2 hb1 hq hb; have f0 := bX.cell 0 rfl; have f1 := bX.cell 1 rfl; have f2 := bX.cell 2 rfl; have f3 := bX.cell 3 rfl; have f4 := bX.cell 4 rfl))
        go_wp2_with fail
        go_ret
        exact ⟨rfl, by rw [hq.out]; exact hb1⟩
end Go.Proofs.Yteefopeclfojiaa
