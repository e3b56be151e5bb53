/-
  Parts AtL AtM AtO AtQ AtU of this seat's texts, in one file: contracts of functions that the law reaches, and the plain laws behind them. No condition.
-/
import Derived.Test.YteefopeclfojiaaG12
import Derived.Test.YteefopeclfojiaaG5
import Derived.Test.YteefopeclfojiaaG7
import Derived.Deep.RegionWith
import Derived.Test.YteefopeclfojiaaG4
import Derived.Sort.QuietTacIn
import Derived.Test.YteefopeclfojiaaG11
/- 
  Layer 24: the document's Is, Link, author.
 -/
namespace Go.Proofs.Yteefopeclfojiaa
open Go.RowKit Go.Sort
attribute [local go_sem] Oper.semAt_some
set_option maxRecDepth 100000 in
set_option maxHeartbeats 4000000 in
theorem ref24_Is (B : Nat) (es : List Evt) (v : Value) (w : World) (hE : FEv B es v w) :
    Calls Try.prog 43 #[v] w fun r w' => r = .returned (.bool (isP es)) ∧ Below w.heap.size w w' := by
  have hbd : Below w.heap.size w w.drew := (Below.refl _ w).drew
  have hg := ref16_Whole B es v w.drew (hE.below hbd).r (hE.below hbd).hB (by have := hE.n; omega) hE.z2
  have HN := Lib.hid ref24_Name
  unfold isP
  obtain ⟨avs, ⟨a, cap, rfl, -⟩, -⟩ := id hE.r
  cases hR : (growP es).isSome with
  | false =>
    rw [hR] at hg
    have H := Lib.hid hg
    clear hg hR hE HN
    go_enter Try.func43, Try.ntmps43
    go_wp2_with fail
    first | go_region_with (go_at_call 24; refine (H.out).mono ?_; rintro r w1 ⟨rfl, hb⟩) | fail
    all_goals
      go_wp2_with fail
      go_ret
      exact ⟨rfl, hbd.trans hb⟩
  | true =>
    obtain ⟨x, hx⟩ := whole_pos hR
    obtain ⟨b, off, cap', av, hv, hbB, -, c1, c2, -⟩ := hE.r.get (Below.refl B w) (Nat.le_refl _) 0 x hx
    cases hv
    have h0 : 0 < es.length := (List.getElem?_eq_some_iff.1 hx).1
    have hbw : b < w.heap.size := Nat.lt_of_lt_of_le hbB hE.hB
    rw [hR] at hg
    rw [hx]
    have H := Lib.hid hg
    have d1 : w.drew.cell? ⟨b, off + 0 * 5 + 1, none⟩ = some (.string x.n.1) := c1
    have d2 : w.drew.cell? ⟨b, off + 0 * 5 + 2, none⟩ = some (.string x.n.2) := c2
    rw [show off + 0 * 5 + 1 = off + 1 by omega] at c1 d1
    rw [show off + 0 * 5 + 2 = off + 1 + 1 by omega] at c2 d2
    obtain ⟨n, hn⟩ : ∃ n, es.length = n := ⟨_, rfl⟩
    rw [hn] at h0 H ⊢
    clear hg hR hE hx c1 c2 hn
    by_cases hnm : x.n = feedN
    · have t1 := toL_self spA
      have t2 := toL_self ⟨#[102, 101, 101, 100]⟩
      rw [hnm, show feedN = (spA, ⟨#[102, 101, 101, 100]⟩) from rfl] at d1 d2
      have hfin := decide_eq_true (show Option.map Evt.n (some x) = some feedN by rw [← hnm]; rfl)
      rw [hfin]
      clear hfin hnm
      go_enter Try.func43, Try.ntmps43
      go_wp2_with fail
      go_region_held3 (fun w' => w'.cell? ⟨b, off + 1, none⟩ = some (.string spA) ∧ w'.cell? ⟨b, off + 1 + 1, none⟩ = some (.string ⟨#[102, 101, 101, 100]⟩)) (first | go_keep | exact ⟨d1, d2⟩)
        (first
          | (go_at_call 24; refine (H.out).mono ?_; rintro r w1 ⟨rfl, hb⟩; have d1 := (hb.cell (p := ⟨b, off + 1, none⟩) hbw).trans d1; have d2 := (hb.cell (p := ⟨b, off + 1 + 1, none⟩) hbw).trans d2)
          | (go_at_call 32; refine (HN.out _ _).mono ?_; rintro r w2 ⟨rfl, hb2⟩; have d1 := (hb2.cell (p := ⟨b, off + 1, none⟩) (Nat.lt_of_lt_of_le hbw hb.size)).trans d1; have d2 := (hb2.cell (p := ⟨b, off + 1 + 1, none⟩) (Nat.lt_of_lt_of_le hbw hb.size)).trans d2))
      all_goals
        go_wp2_with fail
        go_ret
        exact ⟨rfl, (hbd.trans hb).trans (hb2.mono hb.size)⟩
    · have hfin := decide_eq_false (show ¬ Option.map Evt.n (some x) = some feedN from fun h => hnm (by injection h))
      rw [hfin]
      clear hfin
      rcases nm_ne hnm with g1 | ⟨g1, g2⟩
      · rw [show feedN.1 = spA from rfl] at g1
        clear hnm
        go_enter Try.func43, Try.ntmps43
        go_wp2_with fail
        go_region_held3 (fun w' => w'.cell? ⟨b, off + 1, none⟩ = some (.string x.n.1) ∧ w'.cell? ⟨b, off + 1 + 1, none⟩ = some (.string x.n.2)) (first | go_keep | exact ⟨d1, d2⟩)
        (first
          | (go_at_call 24; refine (H.out).mono ?_; rintro r w1 ⟨rfl, hb⟩; have d1 := (hb.cell (p := ⟨b, off + 1, none⟩) hbw).trans d1; have d2 := (hb.cell (p := ⟨b, off + 1 + 1, none⟩) hbw).trans d2)
          | (go_at_call 32; refine (HN.out _ _).mono ?_; rintro r w2 ⟨rfl, hb2⟩; have d1 := (hb2.cell (p := ⟨b, off + 1, none⟩) (Nat.lt_of_lt_of_le hbw hb.size)).trans d1; have d2 := (hb2.cell (p := ⟨b, off + 1 + 1, none⟩) (Nat.lt_of_lt_of_le hbw hb.size)).trans d2))
        all_goals
          go_wp2_with fail
          go_ret
          exact ⟨rfl, (hbd.trans hb).trans (hb2.mono hb.size)⟩
      · rw [show feedN.1 = spA from rfl] at g1
        rw [show feedN.2.toList = [102, 101, 101, 100] from by rw [ByteArray.toList_eq]; rfl] at g2
        clear hnm
        go_enter Try.func43, Try.ntmps43
        go_wp2_with fail
        go_region_held3 (fun w' => w'.cell? ⟨b, off + 1, none⟩ = some (.string x.n.1) ∧ w'.cell? ⟨b, off + 1 + 1, none⟩ = some (.string x.n.2)) (first | go_keep | exact ⟨d1, d2⟩)
        (first
          | (go_at_call 24; refine (H.out).mono ?_; rintro r w1 ⟨rfl, hb⟩; have d1 := (hb.cell (p := ⟨b, off + 1, none⟩) hbw).trans d1; have d2 := (hb.cell (p := ⟨b, off + 1 + 1, none⟩) hbw).trans d2)
          | (go_at_call 32; refine (HN.out _ _).mono ?_; rintro r w2 ⟨rfl, hb2⟩; have d1 := (hb2.cell (p := ⟨b, off + 1, none⟩) (Nat.lt_of_lt_of_le hbw hb.size)).trans d1; have d2 := (hb2.cell (p := ⟨b, off + 1 + 1, none⟩) (Nat.lt_of_lt_of_le hbw hb.size)).trans d2))
        all_goals
          go_wp2_with fail
          go_ret
          exact ⟨rfl, (hbd.trans hb).trans (hb2.mono hb.size)⟩
/-- what a child is to the first link. -/
def linkZ (es : List Evt) (k : Nat) : Option ByteArray := if (es[k]?).map Evt.n = some (spA, ⟨#[108, 105, 110, 107]⟩) then linkK es k else none
theorem findSome_filter {α β : Type} {P : α → Bool} {f : α → Option β} : ∀ l : List α, (l.filter P).findSome? f = l.findSome? fun k => if P k = true then f k else none
  | [] => rfl
  | a :: l => by
    rw [List.filter_cons, List.findSome?_cons]
    by_cases h : P a = true
    · rw [if_pos h, if_pos h, List.findSome?_cons, findSome_filter l]
    · rw [if_neg h, if_neg h, findSome_filter l]
theorem linkP_kids (es : List Evt) (i : Int) : linkP es i = ((kidsP es i).findSome? (linkZ es)).getD ⟨#[]⟩ := by
  unfold linkP namedP
  rw [findSome_filter]
  congr 2
  funext k
  unfold linkZ
  by_cases h : (es[k]?).map Evt.n = some (spA, ⟨#[108, 105, 110, 107]⟩)
  · rw [if_pos (by simpa using h), if_pos h]
  · rw [if_neg (by simpa using h), if_neg h]
theorem findSome_step {α β : Type} {f : α → Option β} {l : List α} {j : Nat} {x : α} (hx : l[j]? = some x) (h : (l.take j).findSome? f = none) : (l.take (j + 1)).findSome? f = f x := by
  rw [List.take_add_one, hx, List.findSome?_append, h]
  simp
theorem findSome_pre {α β : Type} {f : α → Option β} {l : List α} {j : Nat} {y : β} (h : (l.take j).findSome? f = some y) : l.findSome? f = some y := by
  have : l = l.take j ++ l.drop j := (List.take_append_drop j l).symm
  rw [this, List.findSome?_append, h]
  rfl
/-- a row of children, in a later world. -/
theorem kid_cells {w : World} {base : Nat} {ka : Option Addr} {m c : Nat} {K : List Nat} (h : w.ownsRow base 3 1 (.slice ka m c) K.length ((natC K).map (Value.int .i64))) (wr : World) (hb : Below w.heap.size w wr) (j x : Nat) (hx : K[j]? = some x) : ∃ g, ka = some ⟨g, 0, none⟩ ∧ wr.cell? ⟨g, j, none⟩ = some (.int .i64 (x : Int)) := by
  obtain ⟨a, c', hv, hc⟩ := kid_row (own_below h hb (Nat.le_refl _))
  obtain ⟨g, hg, h1⟩ := hc j x hx
  injection hv with hv
  exact ⟨g, hv.trans hg, h1⟩
set_option maxRecDepth 100000 in
set_option maxHeartbeats 8000000 in
theorem ref24_Link (B : Nat) (es : List Evt) (v : Value) (i : Int) (w : World) (hE : FEv B es v w) :
    Calls Try.prog 45 #[v, .int .i64 i] w fun r w' => r = .returned (.string (linkP es i)) ∧ Below w.heap.size w w' := by
  obtain ⟨avs, ⟨a, cap, rfl, -⟩, -⟩ := id hE.r
  have HK := ref16_Kids B es _ i _ hE.r hE.hB (by have := hE.n; omega) hE.z2
  obtain ⟨nn, hnn⟩ : ∃ n, es.length = n := ⟨_, rfl⟩
  have HNN := Lib.hid hnn
  rw [hnn] at HK hE ⊢
  have HE := Lib.hid hE
  rw [linkP_kids]
  have hkm : ∀ x ∈ kidsP es i, x < nn := fun x hx => by rw [← hnn]; exact kidsP_mem hx
  have hkl := kidsP_len es i
  have hn9 := hE.n
  rw [hnn] at hkl hn9
  obtain ⟨K, hK⟩ : ∃ K, kidsP es i = K := ⟨_, rfl⟩
  rw [hK] at HK hkm hkl ⊢
  have HK := Lib.hid HK
  have HKM := Lib.hid hkm
  have HN := Lib.hid ref24_Name
  clear hE hnn hK hkm
  go_enter Try.func45, Try.ntmps45
  go_wp2_with fail
  refine (HK.out).mono ?_
  rintro r w1 ⟨u, rfl, hrow, hb1⟩
  obtain ⟨ka, kc, rfl, -⟩ := kid_row hrow
  obtain ⟨m, hm⟩ : ∃ m, K.length = m := ⟨_, rfl⟩
  have HC := Lib.hid (kid_cells hrow)
  have HM := Lib.hid hm
  rw [hm] at hkl ⊢
  have hbw := hb1
  have HE1 := Lib.hid (HE.out.below hb1)
  clear hrow hm HK hb1
  go_wp2_with fail
  go_loopw [6] (fun i wr => ∃ j : Nat, i = .int .i64 j ∧ j ≤ m ∧ (K.take j).findSome? (linkZ es) = none ∧ Below w1.heap.size w1 wr) (fun i _ => m - (intOf i).toNat)
  case atStart => exact ⟨0, rfl, by omega, rfl, Below.refl _ _⟩
  case round =>
    obtain ⟨j, rfl, hj, HF, hb⟩ := hrel
    by_cases hlt : j < m
    · have hd := decide_eq_true (show (j : Int) < (m : Int) by omega)
      obtain ⟨x, hx⟩ : ∃ x, K[j]? = some x := ⟨_, List.getElem?_eq_getElem (by rw [HM.out]; exact hlt)⟩
      obtain ⟨g, hga, kcell⟩ := HC.out wr hb j x hx
      subst hga
      have hxn := HKM.out x (List.mem_of_getElem? hx)
      obtain ⟨y, hy⟩ : ∃ y, es[x]? = some y := ⟨_, List.getElem?_eq_getElem (by rw [HNN.out]; exact hxn)⟩
      have hst := findSome_step hx HF
      have hce : ∀ u, Below w1.heap.size w1 u → u.cell? ⟨g, j, none⟩ = some (.int .i64 (x : Int)) ∧ ∃ b off, a = some ⟨b, off, none⟩ ∧ u.cell? ⟨b, off + x * 5 + 1, none⟩ = some (.string y.n.1) ∧ u.cell? ⟨b, off + x * 5 + 1 + 1, none⟩ = some (.string y.n.2) := fun u hu => by
        obtain ⟨g', hg', h1⟩ := HC.out u hu j x hx
        cases hg'
        obtain ⟨b, off, cap', av, hv, hbB, c0, c1, c2, -⟩ := HE1.out.r.get hu HE1.out.hB x y hy
        injection hv with hv
        exact ⟨h1, b, off, hv, c1, by rw [show off + x * 5 + 1 + 1 = off + x * 5 + 2 by omega]; exact c2⟩
      obtain ⟨-, b, off, rfl, -⟩ := hce wr hb
      have HCE := Lib.hid (show ∀ u, Below w1.heap.size w1 u → u.cell? ⟨g, j, none⟩ = some (.int .i64 (x : Int)) ∧ u.cell? ⟨b, off + x * 5 + 1, none⟩ = some (.string y.n.1) ∧ u.cell? ⟨b, off + x * 5 + 1 + 1, none⟩ = some (.string y.n.2) from fun u hu => by
        obtain ⟨h1, b', off', h2, h3, h4⟩ := hce u hu
        cases h2
        exact ⟨h1, h3, h4⟩)
      have HB1 := (fun (u : World) (hu : Below w1.heap.size w1 u) => ref16_Attr B es (.slice (some ⟨b, off, none⟩) nn cap) x (⟨#[]⟩, ⟨#[114, 101, 108]⟩) u (HE1.out.r.below hu HE1.out.hB) (Nat.le_trans HE1.out.hB hu.size) (by have := HE1.out.n; omega) HE1.out.z)
      have HB2 := (fun (u : World) (hu : Below w1.heap.size w1 u) => ref16_Attr B es (.slice (some ⟨b, off, none⟩) nn cap) x (⟨#[]⟩, ⟨#[104, 114, 101, 102]⟩) u (HE1.out.r.below hu HE1.out.hB) (Nat.le_trans HE1.out.hB hu.size) (by have := HE1.out.n; omega) HE1.out.z)
      obtain ⟨R1, hR1⟩ : ∃ r, attrP es x (⟨#[]⟩, ⟨#[114, 101, 108]⟩) = r := ⟨_, rfl⟩
      obtain ⟨R2, hR2⟩ : ∃ r, attrP es x (⟨#[]⟩, ⟨#[104, 114, 101, 102]⟩) = r := ⟨_, rfl⟩
      have hlk : linkZ es x = if y.n = (spA, ⟨#[108, 105, 110, 107]⟩) then linkM R1 R2 else none := by
        unfold linkZ linkK
        rw [hy, hR1, hR2]
        by_cases h : y.n = (spA, ⟨#[108, 105, 110, 107]⟩)
        · rw [if_pos h, if_pos (by rw [← h]; rfl)]
        · rw [if_neg h, if_neg (fun h2 => h (by injection h2))]
      rw [hR1] at HB1
      rw [hR2] at HB2
      have HA1 := Lib.hid (fun u hu => ((HB1 u hu).mono fun _ _ h => h.eq))
      have HA2 := Lib.hid (fun u hu => ((HB2 u hu).mono fun _ _ h => h.eq))
      clear HB1 HB2 hR1 hR2 hce hx hy HF
      by_cases hnm : y.n = (spA, ⟨#[108, 105, 110, 107]⟩)
      · rw [if_pos hnm] at hlk
        rw [hnm] at HCE
        have t1 := toL_self spA
        have t2 := toL_self ⟨#[108, 105, 110, 107]⟩
        clear hnm
        cases R2 with
        | none =>
          have HNX := Lib.hid (hst.trans hlk)
          have q1 : (none : Option ByteArray).isSome = false := rfl
          have q2 : (none : Option ByteArray).getD ⟨#[]⟩ = ⟨#[]⟩ := rfl
          rw [q1, q2] at HA2
          clear hst hlk q1 q2
          go_wp2_with fail
          refine (HA1.out wr hb).mono ?_
          rintro r w4 ⟨rfl, hb4⟩
          have hc4 := hb.trans (hb4.mono hb.size)
          have k4 := (HCE.out w4 hc4).1
          clear HA1
          go_wp2_with fail
          refine (HA2.out w4 hc4).mono ?_
          rintro r w5 ⟨rfl, hb5⟩
          have hc5 := hc4.trans (hb5.mono hc4.size)
          have k5 := (HCE.out w5 hc5).1
          have e0 := (HCE.out w5 hc5).1
          have e1 := (HCE.out w5 hc5).2.1
          have e2 := (HCE.out w5 hc5).2.2
          clear HA2
          go_wp2_with fail
          clear e0 e1 e2
          have r0 := cell_regrown k5
          have r1 := cell_regrown (HCE.out w5 hc5).2.1
          have r2 := cell_regrown (HCE.out w5 hc5).2.2
          have cN := fun (d : Nat) (os : Array Obj) => CallsIn.regrown_of (callsIn_wide (n := 5).2 (HN.out ⟨#[108, 105, 110, 107]⟩ (Go.Sort.grow (redrawn w5 d) os)))
          refine (wpIn_wide (n := 6)).1 ?_
          refine wpIn_region_below_tail 20 (by kernel_rfl) (by kernel_rfl) (by kernel_rfl) ?_
          simp only [List.take_succ_cons, List.take_zero, List.drop_succ_cons, List.drop_zero]
          repeat (refine wpQuietIn_step (askedR (fun _ => trivial)) (fun K hK => ?_); go_simp; first | (refine hK _ ?_; clear hK K) | (apply Exists.intro; refine ⟨fun _ => ?_, hK _ ?_⟩; (first | exact cN _ _ | exact ⟨by decide, cN _ _⟩); clear hK K))
          clear r0 r1 r2 cN
          refine wpQuietIn_nil ?_
          rintro w6 ⟨⟨dq, osq⟩, hw6⟩
          have hb6 : Below w5.heap.size w5 w6 := by rw [hw6]; exact below_regrown w5 dq osq
          clear hw6
          have hc6 := hc5.trans (hb6.mono hc5.size)
          gi_wp2_with fail
          all_goals
            go_wp2_with fail
            exact ⟨⟨j + 1, by go_num, by omega, HNX.out, hc6⟩, by simp [intOf]; omega⟩
        | some h =>
          have q1 : (some h).isSome = true := rfl
          have q2 : (some h).getD ⟨#[]⟩ = h := rfl
          rw [q1, q2] at HA2
          clear q1 q2
          cases R1 with
          | none =>
            have HRT := Lib.hid (show (K.findSome? (linkZ es)).getD ⟨#[]⟩ = h by rw [findSome_pre (hst.trans hlk)]; rfl)
            have q1 : (none : Option ByteArray).isSome = false := rfl
            have q2 : (none : Option ByteArray).getD ⟨#[]⟩ = ⟨#[]⟩ := rfl
            rw [q1, q2] at HA1
            clear hst hlk q1 q2
            go_wp2_with fail
            refine (HA1.out wr hb).mono ?_
            rintro r w4 ⟨rfl, hb4⟩
            have hc4 := hb.trans (hb4.mono hb.size)
            have k4 := (HCE.out w4 hc4).1
            clear HA1
            go_wp2_with fail
            refine (HA2.out w4 hc4).mono ?_
            rintro r w5 ⟨rfl, hb5⟩
            have hc5 := hc4.trans (hb5.mono hc4.size)
            have k5 := (HCE.out w5 hc5).1
            have e0 := (HCE.out w5 hc5).1
            have e1 := (HCE.out w5 hc5).2.1
            have e2 := (HCE.out w5 hc5).2.2
            clear HA2
            go_wp2_with fail
            clear e0 e1 e2
            have r0 := cell_regrown k5
            have r1 := cell_regrown (HCE.out w5 hc5).2.1
            have r2 := cell_regrown (HCE.out w5 hc5).2.2
            have cN := fun (d : Nat) (os : Array Obj) => CallsIn.regrown_of (callsIn_wide (n := 5).2 (HN.out ⟨#[108, 105, 110, 107]⟩ (Go.Sort.grow (redrawn w5 d) os)))
            refine (wpIn_wide (n := 6)).1 ?_
            refine wpIn_region_below_tail 20 (by kernel_rfl) (by kernel_rfl) (by kernel_rfl) ?_
            simp only [List.take_succ_cons, List.take_zero, List.drop_succ_cons, List.drop_zero]
            repeat (refine wpQuietIn_step (askedR (fun _ => trivial)) (fun K hK => ?_); go_simp; first | (refine hK _ ?_; clear hK K) | (apply Exists.intro; refine ⟨fun _ => ?_, hK _ ?_⟩; (first | exact cN _ _ | exact ⟨by decide, cN _ _⟩); clear hK K))
            clear r0 r1 r2 cN
            refine wpQuietIn_nil ?_
            rintro w6 ⟨⟨dq, osq⟩, hw6⟩
            have hb6 : Below w5.heap.size w5 w6 := by rw [hw6]; exact below_regrown w5 dq osq
            clear hw6
            have hc6 := hc5.trans (hb6.mono hc5.size)
            gi_wp2_with fail
            all_goals
              go_wp2_with fail
              go_ret
              exact ⟨by rw [HRT.out]; rfl, hbw.trans ((hc6).mono hbw.size)⟩
          | some s =>
            have q1 : (some s).isSome = true := rfl
            have q2 : (some s).getD ⟨#[]⟩ = s := rfl
            rw [q1, q2] at HA1
            clear q1 q2
            by_cases hra : s = ⟨#[97, 108, 116, 101, 114, 110, 97, 116, 101]⟩
            · have q0 : (s.toList == [97, 108, 116, 101, 114, 110, 97, 116, 101]) = true := by rw [hra, ByteArray.toList_eq]; rfl
              have HRT := Lib.hid (show (K.findSome? (linkZ es)).getD ⟨#[]⟩ = h by
                rw [findSome_pre (y := h) (hst.trans (by rw [hlk]; unfold linkM; simp only; rw [if_pos hra]))]; rfl)
              clear hst hlk hra
              go_wp2_with fail
              refine (HA1.out wr hb).mono ?_
              rintro r w4 ⟨rfl, hb4⟩
              have hc4 := hb.trans (hb4.mono hb.size)
              have k4 := (HCE.out w4 hc4).1
              clear HA1
              go_wp2_with fail
              refine (HA2.out w4 hc4).mono ?_
              rintro r w5 ⟨rfl, hb5⟩
              have hc5 := hc4.trans (hb5.mono hc4.size)
              have k5 := (HCE.out w5 hc5).1
              have e0 := (HCE.out w5 hc5).1
              have e1 := (HCE.out w5 hc5).2.1
              have e2 := (HCE.out w5 hc5).2.2
              clear HA2
              go_wp2_with fail
              clear e0 e1 e2
              have r0 := cell_regrown k5
              have r1 := cell_regrown (HCE.out w5 hc5).2.1
              have r2 := cell_regrown (HCE.out w5 hc5).2.2
              have cN := fun (d : Nat) (os : Array Obj) => CallsIn.regrown_of (callsIn_wide (n := 5).2 (HN.out ⟨#[108, 105, 110, 107]⟩ (Go.Sort.grow (redrawn w5 d) os)))
              refine (wpIn_wide (n := 6)).1 ?_
              refine wpIn_region_below_tail 20 (by kernel_rfl) (by kernel_rfl) (by kernel_rfl) ?_
              simp only [List.take_succ_cons, List.take_zero, List.drop_succ_cons, List.drop_zero]
              repeat (refine wpQuietIn_step (askedR (fun _ => trivial)) (fun K hK => ?_); go_simp; first | (refine hK _ ?_; clear hK K) | (apply Exists.intro; refine ⟨fun _ => ?_, hK _ ?_⟩; (first | exact cN _ _ | exact ⟨by decide, cN _ _⟩); clear hK K))
              clear r0 r1 r2 cN
              refine wpQuietIn_nil ?_
              rintro w6 ⟨⟨dq, osq⟩, hw6⟩
              have hb6 : Below w5.heap.size w5 w6 := by rw [hw6]; exact below_regrown w5 dq osq
              clear hw6
              have hc6 := hc5.trans (hb6.mono hc5.size)
              gi_wp2_with fail
              all_goals
                go_wp2_with fail
                go_ret
                exact ⟨by rw [HRT.out]; rfl, hbw.trans ((hc6).mono hbw.size)⟩
            · have q0 : (s.toList == [97, 108, 116, 101, 114, 110, 97, 116, 101]) = false := by
                have : ¬ s.toList = [97, 108, 116, 101, 114, 110, 97, 116, 101] := fun h1 => hra (ba_ext (by rw [h1, ByteArray.toList_eq]))
                simpa using this
              have HNX := Lib.hid (show (K.take (j + 1)).findSome? (linkZ es) = none by rw [hst, hlk]; unfold linkM; simp only; rw [if_neg hra])
              clear hst hlk hra
              go_wp2_with fail
              refine (HA1.out wr hb).mono ?_
              rintro r w4 ⟨rfl, hb4⟩
              have hc4 := hb.trans (hb4.mono hb.size)
              have k4 := (HCE.out w4 hc4).1
              clear HA1
              go_wp2_with fail
              refine (HA2.out w4 hc4).mono ?_
              rintro r w5 ⟨rfl, hb5⟩
              have hc5 := hc4.trans (hb5.mono hc4.size)
              have k5 := (HCE.out w5 hc5).1
              have e0 := (HCE.out w5 hc5).1
              have e1 := (HCE.out w5 hc5).2.1
              have e2 := (HCE.out w5 hc5).2.2
              clear HA2
              go_wp2_with fail
              clear e0 e1 e2
              have r0 := cell_regrown k5
              have r1 := cell_regrown (HCE.out w5 hc5).2.1
              have r2 := cell_regrown (HCE.out w5 hc5).2.2
              have cN := fun (d : Nat) (os : Array Obj) => CallsIn.regrown_of (callsIn_wide (n := 5).2 (HN.out ⟨#[108, 105, 110, 107]⟩ (Go.Sort.grow (redrawn w5 d) os)))
              refine (wpIn_wide (n := 6)).1 ?_
              refine wpIn_region_below_tail 20 (by kernel_rfl) (by kernel_rfl) (by kernel_rfl) ?_
              simp only [List.take_succ_cons, List.take_zero, List.drop_succ_cons, List.drop_zero]
              repeat (refine wpQuietIn_step (askedR (fun _ => trivial)) (fun K hK => ?_); go_simp; first | (refine hK _ ?_; clear hK K) | (apply Exists.intro; refine ⟨fun _ => ?_, hK _ ?_⟩; (first | exact cN _ _ | exact ⟨by decide, cN _ _⟩); clear hK K))
              clear r0 r1 r2 cN
              refine wpQuietIn_nil ?_
              rintro w6 ⟨⟨dq, osq⟩, hw6⟩
              have hb6 : Below w5.heap.size w5 w6 := by rw [hw6]; exact below_regrown w5 dq osq
              clear hw6
              have hc6 := hc5.trans (hb6.mono hc5.size)
              gi_wp2_with fail
              all_goals
                go_wp2_with fail
                exact ⟨⟨j + 1, by go_num, by omega, HNX.out, hc6⟩, by simp [intOf]; omega⟩
      · rw [if_neg hnm] at hlk
        have HNX := Lib.hid (hst.trans hlk)
        obtain ⟨s1, hs1⟩ : ∃ s, R1.getD ⟨#[]⟩ = s := ⟨_, rfl⟩
        obtain ⟨s2, hs2⟩ : ∃ s, R2.getD ⟨#[]⟩ = s := ⟨_, rfl⟩
        obtain ⟨b1, hb1⟩ : ∃ s, R1.isSome = s := ⟨_, rfl⟩
        obtain ⟨b2, hb2⟩ : ∃ s, R2.isSome = s := ⟨_, rfl⟩
        rw [hs1, hb1] at HA1
        rw [hs2, hb2] at HA2
        clear hst hlk hs1 hs2 hb1 hb2
        rcases nm_ne hnm with g1 | ⟨g1, g2⟩
        · clear hnm
          go_wp2_with fail
          refine (HA1.out wr hb).mono ?_
          rintro r w4 ⟨rfl, hb4⟩
          have hc4 := hb.trans (hb4.mono hb.size)
          have k4 := (HCE.out w4 hc4).1
          clear HA1
          go_wp2_with fail
          refine (HA2.out w4 hc4).mono ?_
          rintro r w5 ⟨rfl, hb5⟩
          have hc5 := hc4.trans (hb5.mono hc4.size)
          have k5 := (HCE.out w5 hc5).1
          have e0 := (HCE.out w5 hc5).1
          have e1 := (HCE.out w5 hc5).2.1
          have e2 := (HCE.out w5 hc5).2.2
          clear HA2
          go_wp2_with fail
          clear e0 e1 e2
          have r0 := cell_regrown k5
          have r1 := cell_regrown (HCE.out w5 hc5).2.1
          have r2 := cell_regrown (HCE.out w5 hc5).2.2
          have cN := fun (d : Nat) (os : Array Obj) => CallsIn.regrown_of (callsIn_wide (n := 5).2 (HN.out ⟨#[108, 105, 110, 107]⟩ (Go.Sort.grow (redrawn w5 d) os)))
          refine (wpIn_wide (n := 6)).1 ?_
          refine wpIn_region_below_tail 20 (by kernel_rfl) (by kernel_rfl) (by kernel_rfl) ?_
          simp only [List.take_succ_cons, List.take_zero, List.drop_succ_cons, List.drop_zero]
          repeat (refine wpQuietIn_step (askedR (fun _ => trivial)) (fun K hK => ?_); go_simp; first | (refine hK _ ?_; clear hK K) | (apply Exists.intro; refine ⟨fun _ => ?_, hK _ ?_⟩; (first | exact cN _ _ | exact ⟨by decide, cN _ _⟩); clear hK K))
          clear r0 r1 r2 cN
          refine wpQuietIn_nil ?_
          rintro w6 ⟨⟨dq, osq⟩, hw6⟩
          have hb6 : Below w5.heap.size w5 w6 := by rw [hw6]; exact below_regrown w5 dq osq
          clear hw6
          have hc6 := hc5.trans (hb6.mono hc5.size)
          gi_wp2_with fail
          all_goals
            go_wp2_with fail
            exact ⟨⟨j + 1, by go_num, by omega, HNX.out, hc6⟩, by simp [intOf]; omega⟩
        · clear hnm
          rw [show (spA, (⟨#[108, 105, 110, 107]⟩ : ByteArray)).2.toList = [108, 105, 110, 107] from by rw [ByteArray.toList_eq]] at g2
          go_wp2_with fail
          refine (HA1.out wr hb).mono ?_
          rintro r w4 ⟨rfl, hb4⟩
          have hc4 := hb.trans (hb4.mono hb.size)
          have k4 := (HCE.out w4 hc4).1
          clear HA1
          go_wp2_with fail
          refine (HA2.out w4 hc4).mono ?_
          rintro r w5 ⟨rfl, hb5⟩
          have hc5 := hc4.trans (hb5.mono hc4.size)
          have k5 := (HCE.out w5 hc5).1
          have e0 := (HCE.out w5 hc5).1
          have e1 := (HCE.out w5 hc5).2.1
          have e2 := (HCE.out w5 hc5).2.2
          clear HA2
          go_wp2_with fail
          clear e0 e1 e2
          have r0 := cell_regrown k5
          have r1 := cell_regrown (HCE.out w5 hc5).2.1
          have r2 := cell_regrown (HCE.out w5 hc5).2.2
          have cN := fun (d : Nat) (os : Array Obj) => CallsIn.regrown_of (callsIn_wide (n := 5).2 (HN.out ⟨#[108, 105, 110, 107]⟩ (Go.Sort.grow (redrawn w5 d) os)))
          refine (wpIn_wide (n := 6)).1 ?_
          refine wpIn_region_below_tail 20 (by kernel_rfl) (by kernel_rfl) (by kernel_rfl) ?_
          simp only [List.take_succ_cons, List.take_zero, List.drop_succ_cons, List.drop_zero]
          repeat (refine wpQuietIn_step (askedR (fun _ => trivial)) (fun K hK => ?_); go_simp; first | (refine hK _ ?_; clear hK K) | (apply Exists.intro; refine ⟨fun _ => ?_, hK _ ?_⟩; (first | exact cN _ _ | exact ⟨by decide, cN _ _⟩); clear hK K))
          clear r0 r1 r2 cN
          refine wpQuietIn_nil ?_
          rintro w6 ⟨⟨dq, osq⟩, hw6⟩
          have hb6 : Below w5.heap.size w5 w6 := by rw [hw6]; exact below_regrown w5 dq osq
          clear hw6
          have hc6 := hc5.trans (hb6.mono hc5.size)
          gi_wp2_with fail
          all_goals
            go_wp2_with fail
            exact ⟨⟨j + 1, by go_num, by omega, HNX.out, hc6⟩, by simp [intOf]; omega⟩
    · have hd := decide_eq_false (show ¬ (j : Int) < (m : Int) by omega)
      have HRT := Lib.hid (show (K.findSome? (linkZ es)).getD ⟨#[]⟩ = ⟨#[]⟩ by rw [List.take_of_length_le (by rw [HM.out]; omega)] at HF; rw [HF]; rfl)
      clear HF
      go_wp2_with fail
      go_ret
      exact ⟨by rw [HRT.out]; rfl, hbw.trans (hb.mono hbw.size)⟩
end Go.Proofs.Yteefopeclfojiaa
/- 
  Layer 24: the document's author.
 -/
namespace Go.Proofs.Yteefopeclfojiaa
open Go.RowKit Go.Sort
attribute [local go_sem] Oper.semAt_some
/-- what a child is to the first author. -/
def autZ (es : List Evt) (k : Nat) : Option ByteArray := if (es[k]?).map Evt.n = some (spA, ⟨#[97, 117, 116, 104, 111, 114]⟩) then autK es k else none
theorem authorP_kids (es : List Evt) (i : Int) : authorP es i = (kidsP es i).findSome? (autZ es) := by
  unfold authorP namedP
  rw [findSome_filter]
  congr 1
  funext k
  unfold autZ
  by_cases h : (es[k]?).map Evt.n = some (spA, ⟨#[97, 117, 116, 104, 111, 114]⟩)
  · rw [if_pos (by simpa using h), if_pos h]
  · rw [if_neg (by simpa using h), if_neg h]
set_option maxRecDepth 100000 in
set_option maxHeartbeats 8000000 in
theorem ref24_author (B : Nat) (es : List Evt) (v : Value) (i : Int) (w : World) (hE : FEv B es v w) :
    Calls Try.prog 106 #[v, .int .i64 i] w fun r w' => r = .returned (.tuple #[.string ((authorP es i).getD ⟨#[]⟩), .bool (authorP es i).isSome]) ∧ Below w.heap.size w w' := by
  obtain ⟨avs, ⟨a, cap, rfl, -⟩, -⟩ := id hE.r
  have HK := ref16_Kids B es _ i _ hE.r hE.hB (by have := hE.n; omega) hE.z2
  have HCP := Lib.hid hE.c
  obtain ⟨nn, hnn⟩ : ∃ n, es.length = n := ⟨_, rfl⟩
  have HNN := Lib.hid hnn
  rw [hnn] at HK hE ⊢
  have HE := Lib.hid hE
  rw [authorP_kids]
  have hkm : ∀ x ∈ kidsP es i, x < nn := fun x hx => by rw [← hnn]; exact kidsP_mem hx
  have hkl := kidsP_len es i
  have hn9 := hE.n
  rw [hnn] at hkl hn9
  obtain ⟨K, hK⟩ : ∃ K, kidsP es i = K := ⟨_, rfl⟩
  rw [hK] at HK hkm hkl ⊢
  obtain ⟨RR, hRR⟩ : ∃ R, K.findSome? (autZ es) = R := ⟨_, rfl⟩
  rw [hRR]
  have HRR := Lib.hid hRR
  have HK := Lib.hid HK
  have HKM := Lib.hid hkm
  have HN := Lib.hid ref24_Name
  clear hE hnn hK hkm hRR
  go_enter Try.func106, Try.ntmps106
  go_wp2_with fail
  refine (HK.out).mono ?_
  rintro r w1 ⟨u, rfl, hrow, hb1⟩
  obtain ⟨ka, kc, rfl, -⟩ := kid_row hrow
  obtain ⟨m, hm⟩ : ∃ m, K.length = m := ⟨_, rfl⟩
  have HC := Lib.hid (kid_cells hrow)
  have HM := Lib.hid hm
  rw [hm] at hkl ⊢
  have hbw := hb1
  have HE1 := Lib.hid (HE.out.below hb1)
  clear hrow hm HK hb1
  go_wp2_with fail
  go_loopw [7] (fun i wr => ∃ j : Nat, i = .int .i64 j ∧ j ≤ m ∧ (K.take j).findSome? (autZ es) = none ∧ Below w1.heap.size w1 wr) (fun i _ => m - (intOf i).toNat)
  case atStart => exact ⟨0, rfl, by omega, rfl, Below.refl _ _⟩
  case round =>
    obtain ⟨j, rfl, hj, HF, hb⟩ := hrel
    by_cases hlt : j < m
    · have hd := decide_eq_true (show (j : Int) < (m : Int) by omega)
      obtain ⟨x, hx⟩ : ∃ x, K[j]? = some x := ⟨_, List.getElem?_eq_getElem (by rw [HM.out]; exact hlt)⟩
      obtain ⟨g, hga, kcell⟩ := HC.out wr hb j x hx
      subst hga
      have hxn := HKM.out x (List.mem_of_getElem? hx)
      obtain ⟨y, hy⟩ : ∃ y, es[x]? = some y := ⟨_, List.getElem?_eq_getElem (by rw [HNN.out]; exact hxn)⟩
      have hst := findSome_step hx HF
      have hce : ∀ u, Below w1.heap.size w1 u → u.cell? ⟨g, j, none⟩ = some (.int .i64 (x : Int)) ∧ ∃ b off, a = some ⟨b, off, none⟩ ∧ u.cell? ⟨b, off + x * 5 + 1, none⟩ = some (.string y.n.1) ∧ u.cell? ⟨b, off + x * 5 + 1 + 1, none⟩ = some (.string y.n.2) := fun u hu => by
        obtain ⟨g', hg', h1⟩ := HC.out u hu j x hx
        cases hg'
        obtain ⟨b, off, cap', av, hv, hbB, c0, c1, c2, -⟩ := HE1.out.r.get hu HE1.out.hB x y hy
        injection hv with hv
        exact ⟨h1, b, off, hv, c1, by rw [show off + x * 5 + 1 + 1 = off + x * 5 + 2 by omega]; exact c2⟩
      obtain ⟨-, b, off, rfl, -⟩ := hce wr hb
      have HCE := Lib.hid (show ∀ u, Below w1.heap.size w1 u → u.cell? ⟨g, j, none⟩ = some (.int .i64 (x : Int)) ∧ u.cell? ⟨b, off + x * 5 + 1, none⟩ = some (.string y.n.1) ∧ u.cell? ⟨b, off + x * 5 + 1 + 1, none⟩ = some (.string y.n.2) from fun u hu => by
        obtain ⟨h1, b', off', h2, h3, h4⟩ := hce u hu
        cases h2
        exact ⟨h1, h3, h4⟩)
      have HB1 := (fun (u : World) (hu : Below w1.heap.size w1 u) => ref16_First B es (.slice (some ⟨b, off, none⟩) nn cap) x (spA, ⟨#[110, 97, 109, 101]⟩) u (HE1.out.r.below hu HE1.out.hB) (Nat.le_trans HE1.out.hB hu.size) (by have := HE1.out.n; omega) HE1.out.z2)
      obtain ⟨R, hR⟩ : ∃ r, fstP es x (spA, ⟨#[110, 97, 109, 101]⟩) = r := ⟨_, rfl⟩
      have hlk : autZ es x = if y.n = (spA, ⟨#[97, 117, 116, 104, 111, 114]⟩) then R.map (fun n => strOfNums (textP es n)) else none := by
        unfold autZ autK
        rw [hy, hR]
        by_cases h : y.n = (spA, ⟨#[97, 117, 116, 104, 111, 114]⟩)
        · rw [if_pos h, if_pos (by rw [← h]; rfl)]
        · rw [if_neg h, if_neg (fun h2 => h (by injection h2))]
      rw [hR] at HB1
      clear hR hce hx hy HF
      have k0 := (HCE.out wr hb).1
      have k1 := (HCE.out wr hb).2.1
      have k2 := (HCE.out wr hb).2.2
      have cN := fun (d : Nat) (os : Array Obj) => CallsIn.regrown_of (callsIn_wide (n := 5).2 (HN.out ⟨#[97, 117, 116, 104, 111, 114]⟩ (Go.Sort.grow (redrawn wr d) os)))
      by_cases hnm : y.n = (spA, ⟨#[97, 117, 116, 104, 111, 114]⟩)
      · rw [if_pos hnm] at hlk
        rw [hnm] at k1 k2
        have t1 := toL_self spA
        have t2 := toL_self ⟨#[97, 117, 116, 104, 111, 114]⟩
        clear hnm
        go_wp2_with fail
        have r0 := cell_regrown k0
        have r1 := cell_regrown k1
        have r2 := cell_regrown k2
        refine (wpIn_wide (n := 6)).1 ?_
        refine wpIn_region_below_tail 9 (by kernel_rfl) (by kernel_rfl) (by kernel_rfl) ?_
        simp only [List.take_succ_cons, List.take_zero, List.drop_succ_cons, List.drop_zero]
        repeat (refine wpQuietIn_step (askedR (fun _ => trivial)) (fun K hK => ?_); go_simp; first | (refine hK _ ?_; clear hK K) | (apply Exists.intro; refine ⟨fun _ => ?_, hK _ ?_⟩; (first | exact cN _ _ | exact ⟨by decide, cN _ _⟩); clear hK K))
        clear r0 r1 r2 cN k0 k1 k2
        refine wpQuietIn_nil ?_
        rintro w6 ⟨⟨dq, osq⟩, hw6⟩
        have hb6 : Below wr.heap.size wr w6 := by rw [hw6]; exact below_regrown wr dq osq
        clear hw6
        have hc6 := hb.trans (hb6.mono hb.size)
        gi_wp2_with fail
        have k0 := (HCE.out w6 hc6).1
        have hret : ∀ {u w' : World} {r : Ending}, FirstS u w' R r → r = .returned (.tuple #[.int .i64 ((R.getD 0 : Nat) : Int), .bool R.isSome]) ∧ Below u.heap.size u w' := fun {u w' r} h => by
          obtain ⟨h1, h2⟩ := h
          cases R with
          | none => exact ⟨h2, h1⟩
          | some k => exact ⟨h2, h1⟩
        obtain ⟨rb, hrb⟩ : ∃ b, R.isSome = b := ⟨_, rfl⟩
        obtain ⟨rk, hrk⟩ : ∃ k, R.getD 0 = k := ⟨_, rfl⟩
        rw [hrb, hrk] at hret
        have cN := fun (d : Nat) (os : Array Obj) => CallsIn.regrown_of (callsIn_wide (n := 5).2 (HN.out ⟨#[110, 97, 109, 101]⟩ (Go.Sort.grow (redrawn w6 d) os)))
        have cF := fun (d : Nat) (os : Array Obj) => CallsIn.regrown_of (callsIn_wide (n := 5).2 ((HB1 (Go.Sort.grow (redrawn w6 d) os) (hc6.trans ((below_regrown w6 d os).mono hc6.size))).mono fun _ _ h => hret h))
        clear HB1 hret
        have r0 := cell_regrown k0
        go_wp2_with fail
        refine (wpIn_wide (n := 6)).1 ?_
        refine wpIn_region_below_tail 11 (by kernel_rfl) (by kernel_rfl) (by kernel_rfl) ?_
        simp only [List.take_succ_cons, List.take_zero, List.drop_succ_cons, List.drop_zero]
        repeat (refine wpQuietIn_step (askedR (fun _ => trivial)) (fun K hK => ?_); go_simp; first | (refine hK _ ?_; clear hK K) | (apply Exists.intro; refine ⟨fun _ => ?_, hK _ ?_⟩; (first | exact cN _ _ | exact cF _ _ | exact ⟨by decide, cN _ _⟩ | exact ⟨by decide, cF _ _⟩); clear hK K))
        clear r0 cN cF k0
        refine wpQuietIn_nil ?_
        rintro w7 ⟨⟨dq, osq⟩, hw7⟩
        have hb7 : Below w6.heap.size w6 w7 := by rw [hw7]; exact below_regrown w6 dq osq
        clear hw7
        have hc7 := hc6.trans (hb7.mono hc6.size)
        gi_wp2_with fail
        cases rb with
        | false =>
          have hRn : R = none := by cases R with | none => rfl | some k => cases hrb
          have HNX := Lib.hid (show (K.take (j + 1)).findSome? (autZ es) = none by rw [hst, hlk, hRn]; rfl)
          clear hrb hrk hlk hst hRn
          go_wp2_with fail
          exact ⟨⟨j + 1, by go_num, by omega, HNX.out, hc7⟩, by simp [intOf]; omega⟩
        | true =>
          have hRs : R = some rk := by
            cases R with
            | none => cases hrb
            | some k => rw [← hrk]; rfl
          have HRT := Lib.hid (show RR = some (strOfNums (textP es rk)) by rw [← HRR.out, findSome_pre (y := strOfNums (textP es rk)) (hst.trans (by rw [hlk, hRs]; rfl))])
          have HT := Lib.hid (ref16_Text B es (.slice (some ⟨b, off, none⟩) nn cap) rk w7 (HE1.out.r.below hc7 HE1.out.hB) (Nat.le_trans HE1.out.hB hc7.size) (by have := HE1.out.n; omega) HE1.out.z2 HE1.out.t)
          clear hrb hrk hlk hst hRs
          go_wp2_with fail
          refine (HT.out).mono ?_
          rintro r w8 ⟨rfl, hb8⟩
          go_wp2_with fail
          go_ret2
          exact ⟨by rw [HRT.out]; rfl, hbw.trans ((hc7.trans (hb8.mono hc7.size)).mono hbw.size)⟩
      · rw [if_neg hnm] at hlk
        have HNX := Lib.hid (hst.trans hlk)
        clear hst hlk HB1
        rcases nm_ne hnm with g1 | ⟨g1, g2⟩
        all_goals
          clear hnm
          try rw [show (spA, (⟨#[97, 117, 116, 104, 111, 114]⟩ : ByteArray)).2.toList = [97, 117, 116, 104, 111, 114] from by rw [ByteArray.toList_eq]] at g2
          go_wp2_with fail
          have r0 := cell_regrown k0
          have r1 := cell_regrown k1
          have r2 := cell_regrown k2
          refine (wpIn_wide (n := 6)).1 ?_
          refine wpIn_region_below_tail 9 (by kernel_rfl) (by kernel_rfl) (by kernel_rfl) ?_
          simp only [List.take_succ_cons, List.take_zero, List.drop_succ_cons, List.drop_zero]
          repeat (refine wpQuietIn_step (askedR (fun _ => trivial)) (fun K hK => ?_); go_simp; first | (refine hK _ ?_; clear hK K) | (apply Exists.intro; refine ⟨fun _ => ?_, hK _ ?_⟩; (first | exact cN _ _ | exact ⟨by decide, cN _ _⟩); clear hK K))
          clear r0 r1 r2 cN k0 k1 k2
          refine wpQuietIn_nil ?_
          rintro w6 ⟨⟨dq, osq⟩, hw6⟩
          have hb6 : Below wr.heap.size wr w6 := by rw [hw6]; exact below_regrown wr dq osq
          clear hw6
          have hc6 := hb.trans (hb6.mono hb.size)
          gi_wp2_with fail
          go_wp2_with fail
          exact ⟨⟨j + 1, by go_num, by omega, HNX.out, hc6⟩, by simp [intOf]; omega⟩
    · have hd := decide_eq_false (show ¬ (j : Int) < (m : Int) by omega)
      have HRT := Lib.hid (show RR = none by rw [List.take_of_length_le (by rw [HM.out]; omega)] at HF; rw [← HRR.out]; exact HF)
      clear HF
      go_wp2_with fail
      go_ret2
      exact ⟨by rw [HRT.out]; rfl, hbw.trans (hb.mono hbw.size)⟩
end Go.Proofs.Yteefopeclfojiaa
/- 
  Layer 24: the document's head and entry.
 -/
namespace Go.Proofs.Yteefopeclfojiaa
open Go.RowKit
/-- what a head and an entry have alike. -/
def headQ (es : List Evt) (i : Int) (ns : List ByteArray) : Itm := ⟨txtOf es i (spA, ⟨#[105, 100]⟩), txtOf es i (spA, ⟨#[116, 105, 116, 108, 101]⟩), linkP es i, (authorP es i).getD ⟨#[]⟩, ⟨#[]⟩, (dateP es i ns).1, (dateP es i ns).2⟩
set_option maxRecDepth 100000 in
set_option maxHeartbeats 8000000 in
theorem ref24_head (B : Nat) (es : List Evt) (v : Value) (i : Int) (ns : List ByteArray) (nv : Value) (w : World) (hE : FEv B es v w) (hN : StrsAt w nv ns) (hns : ns.length ≤ 1000) :
    Calls Try.prog 73 #[v, .int .i64 i, nv] w fun r w' => r = .returned (.agg (itV (headQ es i ns))) ∧ Below w.heap.size w w' := by
  have FT := Lib.hid (fun (nm : ByteArray × ByteArray) (u : World) (hu : Below w.heap.size w u) => ref24_text B es v i nm u (hE.below hu))
  have FL := Lib.hid (fun (u : World) (hu : Below w.heap.size w u) => ref24_Link B es v i u (hE.below hu))
  have FD := Lib.hid (fun (u : World) (hu : Below w.heap.size w u) => ref24_Date B es v i ns nv u (hE.below hu) (hN.below hu) hns)
  have FA := Lib.hid (fun (u : World) (hu : Below w.heap.size w u) => ref24_author B es v i u (hE.below hu))
  have HN := Lib.hid ref24_Name
  have hB := (Below.refl w.heap.size w).alloc (Nat.le_refl _) (.cells #[.string ⟨#[]⟩, .string ⟨#[]⟩, .string ⟨#[]⟩, .string ⟨#[]⟩, .string ⟨#[]⟩, .string ⟨#[]⟩, .int .i8 0] 47)
  have hR := RowAt.new w #[.string ⟨#[]⟩, .string ⟨#[]⟩, .string ⟨#[]⟩, .string ⟨#[]⟩, .string ⟨#[]⟩, .string ⟨#[]⟩, .int .i8 0] 47
  unfold headQ
  obtain ⟨D, hD⟩ : ∃ d, dateP es i ns = d := ⟨_, rfl⟩
  obtain ⟨A, hA⟩ : ∃ d, (authorP es i).getD ⟨#[]⟩ = d := ⟨_, rfl⟩
  obtain ⟨L, hL⟩ : ∃ d, linkP es i = d := ⟨_, rfl⟩
  obtain ⟨T1, hT1⟩ : ∃ d, txtOf es i (spA, ⟨#[105, 100]⟩) = d := ⟨_, rfl⟩
  obtain ⟨T2, hT2⟩ : ∃ d, txtOf es i (spA, ⟨#[116, 105, 116, 108, 101]⟩) = d := ⟨_, rfl⟩
  have f1 := FT.out (spA, ⟨#[105, 100]⟩)
  have f2 := FT.out (spA, ⟨#[116, 105, 116, 108, 101]⟩)
  rw [hT1] at f1 ⊢
  rw [hT2] at f2 ⊢
  rw [hL] at FL ⊢
  rw [hD] at FD ⊢
  rw [hA] at FA ⊢
  have F1 := Lib.hid f1
  have F2 := Lib.hid f2
  clear hE hN hD hA hL hT1 hT2 f1 f2 FT
  go_enter Try.func73, Try.ntmps73
  go_wp2_with fail
  refine (HN.out _ _).mono ?_
  rintro r w1 ⟨rfl, hb1⟩
  replace hR := hR.below hb1 hR.lt
  replace hB := hB.trans (hb1.mono hB.size)
  clear hb1
  go_wp2_with fail
  refine (F1.out _ hB).mono ?_
  rintro r w2 ⟨rfl, hb2⟩
  replace hR := hR.below hb2 hR.lt
  replace hB := hB.trans (hb2.mono hB.size)
  clear hb2
  go_wp2_with fail
  refine (HN.out _ _).mono ?_
  rintro r w3 ⟨rfl, hb3⟩
  replace hR := hR.below hb3 hR.lt
  replace hB := hB.trans (hb3.mono hB.size)
  clear hb3
  go_wp2_with fail
  refine (F2.out _ hB).mono ?_
  rintro r w4 ⟨rfl, hb4⟩
  replace hR := hR.below hb4 hR.lt
  replace hB := hB.trans (hb4.mono hB.size)
  clear hb4
  go_wp2_with fail
  refine (FL.out _ hB).mono ?_
  rintro r w5 ⟨rfl, hb5⟩
  replace hR := hR.below hb5 hR.lt
  replace hB := hB.trans (hb5.mono hB.size)
  clear hb5
  have hne := hR.lt
  have hX := RowAt.new w5 #[.string T1, .string T2, .string L, .string ⟨#[]⟩, .string ⟨#[]⟩, .string ⟨#[]⟩, .int .i8 0] 47
  replace hR := hR.alloc (.cells #[.string T1, .string T2, .string L, .string ⟨#[]⟩, .string ⟨#[]⟩, .string ⟨#[]⟩, .int .i8 0] 47)
  replace hB := hB.alloc hB.size (.cells #[.string T1, .string T2, .string L, .string ⟨#[]⟩, .string ⟨#[]⟩, .string ⟨#[]⟩, .int .i8 0] 47)
  obtain ⟨xb, hxb⟩ : ∃ q, w5.heap.size = q := ⟨_, rfl⟩
  rw [hxb] at hne hX
  go_wp2_with fail
  generalize w5.alloc (.cells #[.string T1, .string T2, .string L, .string ⟨#[]⟩, .string ⟨#[]⟩, .string ⟨#[]⟩, .int .i8 0] 47) = w6 at hX hR hB ⊢
  clear hxb
  refine (FD.out _ hB).mono ?_
  rintro r w7 ⟨rfl, hb7⟩
  replace hR := hR.below hb7 hR.lt
  replace hX := hX.below hb7 hX.lt
  replace hB := hB.trans (hb7.mono hB.size)
  clear hb7
  have c5 : w7.cell? ⟨xb, 5, none⟩ = some (.string ⟨#[]⟩) := hX.blk.cell 5 rfl
  have c6 : w7.cell? ⟨xb, 6, none⟩ = some (.int .i8 0) := hX.blk.cell 6 rfl
  have d5 := hX.blk.free 5
  have d6 := hX.blk.free 6
  have HX := Lib.hid hX
  have HR := Lib.hid hR
  clear hX hR
  go_wp2_with fail
  have hX := (HX.out.set 5 (.string D.1)).set 6 (.int .i8 D.2)
  have hR := (HR.out.far (Nat.ne_of_lt hne) 5 (.string D.1)).far (Nat.ne_of_lt hne) 6 (.int .i8 D.2)
  replace hB := (hB.setCell (p := ⟨xb, 5, none⟩) (Nat.le_of_lt hne) (.string D.1)).setCell (p := ⟨xb, 6, none⟩) (Nat.le_of_lt hne) (.int .i8 D.2)
  clear HX HR c5 c6 d5 d6
  generalize (w7.setCell ⟨xb, 5, none⟩ (.string D.1)).setCell ⟨xb, 6, none⟩ (.int .i8 D.2) = w8 at hX hR hB ⊢
  refine (FA.out _ hB).mono ?_
  rintro r w9 ⟨rfl, hb9⟩
  replace hR := hR.below hb9 hR.lt
  replace hX := hX.below hb9 hX.lt
  replace hB := hB.trans (hb9.mono hB.size)
  clear hb9
  have c0 : w9.cell? ⟨xb, 0, none⟩ = some (.string T1) := hX.blk.cell 0 rfl
  have c1 : w9.cell? ⟨xb, 1, none⟩ = some (.string T2) := hX.blk.cell 1 rfl
  have c2 : w9.cell? ⟨xb, 2, none⟩ = some (.string L) := hX.blk.cell 2 rfl
  have c3 : w9.cell? ⟨xb, 3, none⟩ = some (.string ⟨#[]⟩) := hX.blk.cell 3 rfl
  have c4 : w9.cell? ⟨xb, 4, none⟩ = some (.string ⟨#[]⟩) := hX.blk.cell 4 rfl
  have c5 : w9.cell? ⟨xb, 5, none⟩ = some (.string D.1) := hX.blk.cell 5 rfl
  have c6 : w9.cell? ⟨xb, 6, none⟩ = some (.int .i8 D.2) := hX.blk.cell 6 rfl
  have r0 : w9.cell? ⟨w.heap.size, 0, none⟩ = some (.string ⟨#[]⟩) := hR.blk.cell 0 rfl
  have r1 : w9.cell? ⟨w.heap.size, 1, none⟩ = some (.string ⟨#[]⟩) := hR.blk.cell 1 rfl
  have r2 : w9.cell? ⟨w.heap.size, 2, none⟩ = some (.string ⟨#[]⟩) := hR.blk.cell 2 rfl
  have r3 : w9.cell? ⟨w.heap.size, 3, none⟩ = some (.string ⟨#[]⟩) := hR.blk.cell 3 rfl
  have r4 : w9.cell? ⟨w.heap.size, 4, none⟩ = some (.string ⟨#[]⟩) := hR.blk.cell 4 rfl
  have r5 : w9.cell? ⟨w.heap.size, 5, none⟩ = some (.string ⟨#[]⟩) := hR.blk.cell 5 rfl
  have r6 : w9.cell? ⟨w.heap.size, 6, none⟩ = some (.int .i8 0) := hR.blk.cell 6 rfl
  have d3 := hX.blk.free 3
  have q0 := hR.blk.free 0
  have q1 := hR.blk.free 1
  have q2 := hR.blk.free 2
  have q3 := hR.blk.free 3
  have q4 := hR.blk.free 4
  have q5 := hR.blk.free 5
  have q6 := hR.blk.free 6
  have HR := Lib.hid (hR.far (Nat.ne_of_lt hne) 3 (.string A))
  have HB := Lib.hid (hB.setCell (p := ⟨xb, 3, none⟩) (Nat.le_of_lt hne) (.string A))
  clear hX hR hB
  go_wp2_with fail
  refine bodyPost_ret (results_cell1 rfl _ _ _ _ _ rfl (((((((HR.out.set 0 _).set 1 _).set 2 _).set 3 _).set 4 _).set 5 _).set 6 _).blk Try.underlying47 rfl (by kernel_rfl)) rfl ⟨rfl, ?_⟩
  exact ((((((HB.out.setCell (Nat.le_refl _) _).setCell (Nat.le_refl _) _).setCell (Nat.le_refl _) _).setCell (Nat.le_refl _) _).setCell (Nat.le_refl _) _).setCell (Nat.le_refl _) _).setCell (Nat.le_refl _) _
set_option maxRecDepth 100000 in
set_option maxHeartbeats 8000000 in
theorem ref24_entry (B : Nat) (es : List Evt) (v : Value) (i : Int) (w : World) (hE : FEv B es v w) :
    Calls Try.prog 75 #[v, .int .i64 i] w fun r w' => r = .returned (.agg (itV (entryP es i (bothP es i)))) ∧ Below w.heap.size w w' := by
  have FT := fun (nm : ByteArray × ByteArray) (u : World) (hu : Below w.heap.size w u) => ref24_text B es v i nm u (hE.below hu)
  have FA := Lib.hid (fun (u : World) (hu : Below w.heap.size w u) => ref24_author B es v i u (hE.below hu))
  have HN := Lib.hid ref24_Name
  have HC := Lib.hid ref24_Core
  have hB0 := (Below.refl w.heap.size w).alloc (Nat.le_refl _) (.cells #[.string ⟨#[]⟩, .string ⟨#[]⟩, .string ⟨#[]⟩, .string ⟨#[]⟩, .string ⟨#[]⟩, .string ⟨#[]⟩, .int .i8 0] 47)
  have hB1 := hB0.alloc hB0.size (.cells #[.string ⟨#[117, 112, 100, 97, 116, 101, 100]⟩, .string ⟨#[112, 117, 98, 108, 105, 115, 104, 101, 100]⟩] 9)
  have N0 := StrsAt.of (ns := [⟨#[117, 112, 100, 97, 116, 101, 100]⟩, ⟨#[112, 117, 98, 108, 105, 115, 104, 101, 100]⟩]) (RowAt.new (w.alloc (.cells #[.string ⟨#[]⟩, .string ⟨#[]⟩, .string ⟨#[]⟩, .string ⟨#[]⟩, .string ⟨#[]⟩, .string ⟨#[]⟩, .int .i8 0] 47)) #[.string ⟨#[117, 112, 100, 97, 116, 101, 100]⟩, .string ⟨#[112, 117, 98, 108, 105, 115, 104, 101, 100]⟩] 9)
  simp only [World.size_alloc, List.length_cons, List.length_nil, Nat.zero_add] at N0
  have HH := ref24_head B es v i _ _ _ (hE.below hB1) N0 (by decide)
  have HEM := fun (u : World) => ref22_Empty (txtOf es i (spA, ⟨#[99, 111, 110, 116, 101, 110, 116]⟩)) u (by have h1 := txtOf_size es i (spA, ⟨#[99, 111, 110, 116, 101, 110, 116]⟩); have h2 := hE.t; omega)
  obtain ⟨H, hHd⟩ : ∃ d, headQ es i [⟨#[117, 112, 100, 97, 116, 101, 100]⟩, ⟨#[112, 117, 98, 108, 105, 115, 104, 101, 100]⟩] = d := ⟨_, rfl⟩
  obtain ⟨X, hX0⟩ : ∃ d, entryP es i (bothP es i) = d := ⟨_, rfl⟩
  obtain ⟨A, hA⟩ : ∃ d, authorP es i = d := ⟨_, rfl⟩
  obtain ⟨C, hC⟩ : ∃ d, txtOf es i (spA, ⟨#[99, 111, 110, 116, 101, 110, 116]⟩) = d := ⟨_, rfl⟩
  obtain ⟨S, hS⟩ : ∃ d, txtOf es i (spA, ⟨#[115, 117, 109, 109, 97, 114, 121]⟩) = d := ⟨_, rfl⟩
  obtain ⟨R, hR0⟩ : ∃ d, txtOf es i (spC, ⟨#[99, 114, 101, 97, 116, 111, 114]⟩) = d := ⟨_, rfl⟩
  have f1 := FT (spA, ⟨#[99, 111, 110, 116, 101, 110, 116]⟩)
  have f2 := FT (spA, ⟨#[115, 117, 109, 109, 97, 114, 121]⟩)
  have f3 := FT (spC, ⟨#[99, 114, 101, 97, 116, 111, 114]⟩)
  rw [hC] at f1 HEM
  rw [hS] at f2
  rw [hR0] at f3
  rw [hA] at FA
  rw [hHd, show itV H = #[.string H.id, .string H.title, .string H.link, .string H.author, .string H.content, .string H.date, .int .i8 H.kind] from rfl] at HH
  rw [hX0]
  have F1 := Lib.hid f1
  have F2 := Lib.hid f2
  have F3 := Lib.hid f3
  have HEM := Lib.hid HEM
  have HH := Lib.hid HH
  have hR := (RowAt.new w #[.string ⟨#[]⟩, .string ⟨#[]⟩, .string ⟨#[]⟩, .string ⟨#[]⟩, .string ⟨#[]⟩, .string ⟨#[]⟩, .int .i8 0] 47).alloc (.cells #[.string ⟨#[117, 112, 100, 97, 116, 101, 100]⟩, .string ⟨#[112, 117, 98, 108, 105, 115, 104, 101, 100]⟩] 9)
  have HRW := Lib.hid hR
  have HB1 := Lib.hid hB1
  clear hE f1 f2 f3 FT N0 hB0 hB1 hR
  go_enter Try.func75, Try.ntmps75
  go_wp2_with fail
  refine (HH.out).mono ?_
  rintro r w5 ⟨rfl, hb5⟩
  have hB := HB1.out.trans (hb5.mono HB1.out.size)
  have hR := HRW.out.below hb5 HRW.out.lt
  clear HRW HB1 HH hb5
  have hne := hR.lt
  have hX := RowAt.new w5 #[.string H.id, .string H.title, .string H.link, .string H.author, .string H.content, .string H.date, .int .i8 H.kind] 47
  replace hR := hR.alloc (.cells #[.string H.id, .string H.title, .string H.link, .string H.author, .string H.content, .string H.date, .int .i8 H.kind] 47)
  replace hB := hB.alloc hB.size (.cells #[.string H.id, .string H.title, .string H.link, .string H.author, .string H.content, .string H.date, .int .i8 H.kind] 47)
  go_wp2_with fail
  generalize w5.alloc (.cells #[.string H.id, .string H.title, .string H.link, .string H.author, .string H.content, .string H.date, .int .i8 H.kind] 47) = w6 at hX hR hB ⊢
  generalize w5.heap.size = xb at hX hne ⊢
  cases A with
  | none =>
    have q1 : (none : Option ByteArray).isSome = false := rfl
    have q2 : (none : Option ByteArray).getD ⟨#[]⟩ = ⟨#[]⟩ := rfl
    rw [q1, q2] at FA
    clear q1 q2
    cases hem : emptyB C with
    | true =>
      rw [hem] at HEM
      have HXX := Lib.hid (show (⟨H.id, H.title, H.link, R, S, H.date, H.kind⟩ : Itm) = X by rw [← hX0, ← hHd]; unfold entryP whoP contP; rw [hA, hC, hS, hR0, hem]; rfl)
      clear hX0 hHd hA hC hS hR0 hem
      go_wp2_with fail
      refine (FA.out _ hB).mono ?_
      rintro r w11 ⟨rfl, hbn⟩
      replace hR := hR.below hbn hR.lt
      replace hX := hX.below hbn hX.lt
      replace hB := hB.trans (hbn.mono hB.size)
      clear hbn
      go_wp2_with fail
      refine (HC.out _ _).mono ?_
      rintro r w12 ⟨rfl, hbn⟩
      replace hR := hR.below hbn hR.lt
      replace hX := hX.below hbn hX.lt
      replace hB := hB.trans (hbn.mono hB.size)
      clear hbn
      go_wp2_with fail
      refine (F3.out _ hB).mono ?_
      rintro r w13 ⟨rfl, hbn⟩
      replace hR := hR.below hbn hR.lt
      replace hX := hX.below hbn hX.lt
      replace hB := hB.trans (hbn.mono hB.size)
      clear hbn
      have ck : w13.cell? ⟨xb, 3, none⟩ = some (.string H.author) := hX.blk.cell 3 rfl
      have dk := hX.blk.free 3
      have HX := Lib.hid (hX.set 3 (.string R))
      have HR := Lib.hid (hR.far (Nat.ne_of_lt hne) 3 (.string R))
      have HB := Lib.hid (hB.setCell (p := ⟨xb, 3, none⟩) (Nat.le_of_lt hne) (.string R))
      clear hX hR hB
      go_wp2_with fail
      have hX := HX.out
      have hR := HR.out
      have hB := HB.out
      clear HX HR HB ck dk
      generalize w13.setCell ⟨xb, 3, none⟩ (.string R) = w14 at hX hR hB ⊢
      refine (HN.out _ _).mono ?_
      rintro r w15 ⟨rfl, hbn⟩
      replace hR := hR.below hbn hR.lt
      replace hX := hX.below hbn hX.lt
      replace hB := hB.trans (hbn.mono hB.size)
      clear hbn
      go_wp2_with fail
      refine (F1.out _ hB).mono ?_
      rintro r w16 ⟨rfl, hbn⟩
      replace hR := hR.below hbn hR.lt
      replace hX := hX.below hbn hX.lt
      replace hB := hB.trans (hbn.mono hB.size)
      clear hbn
      have ck : w16.cell? ⟨xb, 4, none⟩ = some (.string H.content) := hX.blk.cell 4 rfl
      have dk := hX.blk.free 4
      have HX := Lib.hid (hX.set 4 (.string C))
      have HR := Lib.hid (hR.far (Nat.ne_of_lt hne) 4 (.string C))
      have HB := Lib.hid (hB.setCell (p := ⟨xb, 4, none⟩) (Nat.le_of_lt hne) (.string C))
      clear hX hR hB
      go_wp2_with fail
      have hX := HX.out
      have hR := HR.out
      have hB := HB.out
      clear HX HR HB ck dk
      generalize w16.setCell ⟨xb, 4, none⟩ (.string C) = w17 at hX hR hB ⊢
      refine (HEM.out _).mono ?_
      rintro r w18 ⟨rfl, rfl⟩
      go_wp2_with fail
      refine (HN.out _ _).mono ?_
      rintro r w18 ⟨rfl, hbn⟩
      replace hR := hR.below hbn hR.lt
      replace hX := hX.below hbn hX.lt
      replace hB := hB.trans (hbn.mono hB.size)
      clear hbn
      go_wp2_with fail
      refine (F2.out _ hB).mono ?_
      rintro r w19 ⟨rfl, hbn⟩
      replace hR := hR.below hbn hR.lt
      replace hX := hX.below hbn hX.lt
      replace hB := hB.trans (hbn.mono hB.size)
      clear hbn
      have c0 : w19.cell? ⟨xb, 0, none⟩ = some (.string H.id) := hX.blk.cell 0 rfl
      have c1 : w19.cell? ⟨xb, 1, none⟩ = some (.string H.title) := hX.blk.cell 1 rfl
      have c2 : w19.cell? ⟨xb, 2, none⟩ = some (.string H.link) := hX.blk.cell 2 rfl
      have c3 : w19.cell? ⟨xb, 3, none⟩ = some (.string R) := hX.blk.cell 3 rfl
      have c4 : w19.cell? ⟨xb, 4, none⟩ = some (.string C) := hX.blk.cell 4 rfl
      have c5 : w19.cell? ⟨xb, 5, none⟩ = some (.string H.date) := hX.blk.cell 5 rfl
      have c6 : w19.cell? ⟨xb, 6, none⟩ = some (.int .i8 H.kind) := hX.blk.cell 6 rfl
      have r0 : w19.cell? ⟨w.heap.size, 0, none⟩ = some (.string ⟨#[]⟩) := hR.blk.cell 0 rfl
      have q0 := hR.blk.free 0
      have r1 : w19.cell? ⟨w.heap.size, 1, none⟩ = some (.string ⟨#[]⟩) := hR.blk.cell 1 rfl
      have q1 := hR.blk.free 1
      have r2 : w19.cell? ⟨w.heap.size, 2, none⟩ = some (.string ⟨#[]⟩) := hR.blk.cell 2 rfl
      have q2 := hR.blk.free 2
      have r3 : w19.cell? ⟨w.heap.size, 3, none⟩ = some (.string ⟨#[]⟩) := hR.blk.cell 3 rfl
      have q3 := hR.blk.free 3
      have r4 : w19.cell? ⟨w.heap.size, 4, none⟩ = some (.string ⟨#[]⟩) := hR.blk.cell 4 rfl
      have q4 := hR.blk.free 4
      have r5 : w19.cell? ⟨w.heap.size, 5, none⟩ = some (.string ⟨#[]⟩) := hR.blk.cell 5 rfl
      have q5 := hR.blk.free 5
      have r6 : w19.cell? ⟨w.heap.size, 6, none⟩ = some (.int .i8 0) := hR.blk.cell 6 rfl
      have q6 := hR.blk.free 6
      have dk := hX.blk.free 4
      have HR := Lib.hid (hR.far (Nat.ne_of_lt hne) 4 (.string S))
      have HB := Lib.hid (hB.setCell (p := ⟨xb, 4, none⟩) (Nat.le_of_lt hne) (.string S))
      clear hX hR hB
      go_wp2_with fail
      refine bodyPost_ret (results_cell1 rfl _ _ _ _ _ rfl (((((((HR.out.set 0 _).set 1 _).set 2 _).set 3 _).set 4 _).set 5 _).set 6 _).blk Try.underlying47 rfl (by kernel_rfl)) rfl ⟨?_, ?_⟩
      · rw [← HXX.out]
        rfl
      · exact ((((((HB.out.setCell (Nat.le_refl _) _).setCell (Nat.le_refl _) _).setCell (Nat.le_refl _) _).setCell (Nat.le_refl _) _).setCell (Nat.le_refl _) _).setCell (Nat.le_refl _) _).setCell (Nat.le_refl _) _
    | false =>
      rw [hem] at HEM
      have HXX := Lib.hid (show (⟨H.id, H.title, H.link, R, C, H.date, H.kind⟩ : Itm) = X by rw [← hX0, ← hHd]; unfold entryP whoP contP; rw [hA, hC, hS, hR0, hem]; rfl)
      clear hX0 hHd hA hC hS hR0 hem
      go_wp2_with fail
      refine (FA.out _ hB).mono ?_
      rintro r w20 ⟨rfl, hbn⟩
      replace hR := hR.below hbn hR.lt
      replace hX := hX.below hbn hX.lt
      replace hB := hB.trans (hbn.mono hB.size)
      clear hbn
      go_wp2_with fail
      refine (HC.out _ _).mono ?_
      rintro r w21 ⟨rfl, hbn⟩
      replace hR := hR.below hbn hR.lt
      replace hX := hX.below hbn hX.lt
      replace hB := hB.trans (hbn.mono hB.size)
      clear hbn
      go_wp2_with fail
      refine (F3.out _ hB).mono ?_
      rintro r w22 ⟨rfl, hbn⟩
      replace hR := hR.below hbn hR.lt
      replace hX := hX.below hbn hX.lt
      replace hB := hB.trans (hbn.mono hB.size)
      clear hbn
      have ck : w22.cell? ⟨xb, 3, none⟩ = some (.string H.author) := hX.blk.cell 3 rfl
      have dk := hX.blk.free 3
      have HX := Lib.hid (hX.set 3 (.string R))
      have HR := Lib.hid (hR.far (Nat.ne_of_lt hne) 3 (.string R))
      have HB := Lib.hid (hB.setCell (p := ⟨xb, 3, none⟩) (Nat.le_of_lt hne) (.string R))
      clear hX hR hB
      go_wp2_with fail
      have hX := HX.out
      have hR := HR.out
      have hB := HB.out
      clear HX HR HB ck dk
      generalize w22.setCell ⟨xb, 3, none⟩ (.string R) = w23 at hX hR hB ⊢
      refine (HN.out _ _).mono ?_
      rintro r w24 ⟨rfl, hbn⟩
      replace hR := hR.below hbn hR.lt
      replace hX := hX.below hbn hX.lt
      replace hB := hB.trans (hbn.mono hB.size)
      clear hbn
      go_wp2_with fail
      refine (F1.out _ hB).mono ?_
      rintro r w25 ⟨rfl, hbn⟩
      replace hR := hR.below hbn hR.lt
      replace hX := hX.below hbn hX.lt
      replace hB := hB.trans (hbn.mono hB.size)
      clear hbn
      have ck : w25.cell? ⟨xb, 4, none⟩ = some (.string H.content) := hX.blk.cell 4 rfl
      have dk := hX.blk.free 4
      have HX := Lib.hid (hX.set 4 (.string C))
      have HR := Lib.hid (hR.far (Nat.ne_of_lt hne) 4 (.string C))
      have HB := Lib.hid (hB.setCell (p := ⟨xb, 4, none⟩) (Nat.le_of_lt hne) (.string C))
      clear hX hR hB
      go_wp2_with fail
      have hX := HX.out
      have hR := HR.out
      have hB := HB.out
      clear HX HR HB ck dk
      generalize w25.setCell ⟨xb, 4, none⟩ (.string C) = w26 at hX hR hB ⊢
      refine (HEM.out _).mono ?_
      rintro r w27 ⟨rfl, rfl⟩
      have c0 : w26.cell? ⟨xb, 0, none⟩ = some (.string H.id) := hX.blk.cell 0 rfl
      have c1 : w26.cell? ⟨xb, 1, none⟩ = some (.string H.title) := hX.blk.cell 1 rfl
      have c2 : w26.cell? ⟨xb, 2, none⟩ = some (.string H.link) := hX.blk.cell 2 rfl
      have c3 : w26.cell? ⟨xb, 3, none⟩ = some (.string R) := hX.blk.cell 3 rfl
      have c4 : w26.cell? ⟨xb, 4, none⟩ = some (.string C) := hX.blk.cell 4 rfl
      have c5 : w26.cell? ⟨xb, 5, none⟩ = some (.string H.date) := hX.blk.cell 5 rfl
      have c6 : w26.cell? ⟨xb, 6, none⟩ = some (.int .i8 H.kind) := hX.blk.cell 6 rfl
      have r0 : w26.cell? ⟨w.heap.size, 0, none⟩ = some (.string ⟨#[]⟩) := hR.blk.cell 0 rfl
      have q0 := hR.blk.free 0
      have r1 : w26.cell? ⟨w.heap.size, 1, none⟩ = some (.string ⟨#[]⟩) := hR.blk.cell 1 rfl
      have q1 := hR.blk.free 1
      have r2 : w26.cell? ⟨w.heap.size, 2, none⟩ = some (.string ⟨#[]⟩) := hR.blk.cell 2 rfl
      have q2 := hR.blk.free 2
      have r3 : w26.cell? ⟨w.heap.size, 3, none⟩ = some (.string ⟨#[]⟩) := hR.blk.cell 3 rfl
      have q3 := hR.blk.free 3
      have r4 : w26.cell? ⟨w.heap.size, 4, none⟩ = some (.string ⟨#[]⟩) := hR.blk.cell 4 rfl
      have q4 := hR.blk.free 4
      have r5 : w26.cell? ⟨w.heap.size, 5, none⟩ = some (.string ⟨#[]⟩) := hR.blk.cell 5 rfl
      have q5 := hR.blk.free 5
      have r6 : w26.cell? ⟨w.heap.size, 6, none⟩ = some (.int .i8 0) := hR.blk.cell 6 rfl
      have q6 := hR.blk.free 6
      have HR := Lib.hid hR
      have HB := Lib.hid hB
      clear hX hR hB
      go_wp2_with fail
      refine bodyPost_ret (results_cell1 rfl _ _ _ _ _ rfl (((((((HR.out.set 0 _).set 1 _).set 2 _).set 3 _).set 4 _).set 5 _).set 6 _).blk Try.underlying47 rfl (by kernel_rfl)) rfl ⟨?_, ?_⟩
      · rw [← HXX.out]
        rfl
      · exact ((((((HB.out.setCell (Nat.le_refl _) _).setCell (Nat.le_refl _) _).setCell (Nat.le_refl _) _).setCell (Nat.le_refl _) _).setCell (Nat.le_refl _) _).setCell (Nat.le_refl _) _).setCell (Nat.le_refl _) _
  | some A =>
    have q1 : (some A).isSome = true := rfl
    have q2 : (some A).getD ⟨#[]⟩ = A := rfl
    rw [q1, q2] at FA
    clear q1 q2
    cases hem : emptyB C with
    | true =>
      rw [hem] at HEM
      have HXX := Lib.hid (show (⟨H.id, H.title, H.link, H.author, S, H.date, H.kind⟩ : Itm) = X by rw [← hX0, ← hHd]; unfold entryP whoP contP; rw [hA, hC, hS, hR0, hem]; rw [show (headQ es i [⟨#[117, 112, 100, 97, 116, 101, 100]⟩, ⟨#[112, 117, 98, 108, 105, 115, 104, 101, 100]⟩]).author = A by unfold headQ; rw [hA]; rfl]; rfl)
      clear hX0 hHd hA hC hS hR0 hem
      go_wp2_with fail
      refine (FA.out _ hB).mono ?_
      rintro r w27 ⟨rfl, hbn⟩
      replace hR := hR.below hbn hR.lt
      replace hX := hX.below hbn hX.lt
      replace hB := hB.trans (hbn.mono hB.size)
      clear hbn
      go_wp2_with fail
      refine (HN.out _ _).mono ?_
      rintro r w28 ⟨rfl, hbn⟩
      replace hR := hR.below hbn hR.lt
      replace hX := hX.below hbn hX.lt
      replace hB := hB.trans (hbn.mono hB.size)
      clear hbn
      go_wp2_with fail
      refine (F1.out _ hB).mono ?_
      rintro r w29 ⟨rfl, hbn⟩
      replace hR := hR.below hbn hR.lt
      replace hX := hX.below hbn hX.lt
      replace hB := hB.trans (hbn.mono hB.size)
      clear hbn
      have ck : w29.cell? ⟨xb, 4, none⟩ = some (.string H.content) := hX.blk.cell 4 rfl
      have dk := hX.blk.free 4
      have HX := Lib.hid (hX.set 4 (.string C))
      have HR := Lib.hid (hR.far (Nat.ne_of_lt hne) 4 (.string C))
      have HB := Lib.hid (hB.setCell (p := ⟨xb, 4, none⟩) (Nat.le_of_lt hne) (.string C))
      clear hX hR hB
      go_wp2_with fail
      have hX := HX.out
      have hR := HR.out
      have hB := HB.out
      clear HX HR HB ck dk
      generalize w29.setCell ⟨xb, 4, none⟩ (.string C) = w30 at hX hR hB ⊢
      refine (HEM.out _).mono ?_
      rintro r w31 ⟨rfl, rfl⟩
      go_wp2_with fail
      refine (HN.out _ _).mono ?_
      rintro r w31 ⟨rfl, hbn⟩
      replace hR := hR.below hbn hR.lt
      replace hX := hX.below hbn hX.lt
      replace hB := hB.trans (hbn.mono hB.size)
      clear hbn
      go_wp2_with fail
      refine (F2.out _ hB).mono ?_
      rintro r w32 ⟨rfl, hbn⟩
      replace hR := hR.below hbn hR.lt
      replace hX := hX.below hbn hX.lt
      replace hB := hB.trans (hbn.mono hB.size)
      clear hbn
      have c0 : w32.cell? ⟨xb, 0, none⟩ = some (.string H.id) := hX.blk.cell 0 rfl
      have c1 : w32.cell? ⟨xb, 1, none⟩ = some (.string H.title) := hX.blk.cell 1 rfl
      have c2 : w32.cell? ⟨xb, 2, none⟩ = some (.string H.link) := hX.blk.cell 2 rfl
      have c3 : w32.cell? ⟨xb, 3, none⟩ = some (.string H.author) := hX.blk.cell 3 rfl
      have c4 : w32.cell? ⟨xb, 4, none⟩ = some (.string C) := hX.blk.cell 4 rfl
      have c5 : w32.cell? ⟨xb, 5, none⟩ = some (.string H.date) := hX.blk.cell 5 rfl
      have c6 : w32.cell? ⟨xb, 6, none⟩ = some (.int .i8 H.kind) := hX.blk.cell 6 rfl
      have r0 : w32.cell? ⟨w.heap.size, 0, none⟩ = some (.string ⟨#[]⟩) := hR.blk.cell 0 rfl
      have q0 := hR.blk.free 0
      have r1 : w32.cell? ⟨w.heap.size, 1, none⟩ = some (.string ⟨#[]⟩) := hR.blk.cell 1 rfl
      have q1 := hR.blk.free 1
      have r2 : w32.cell? ⟨w.heap.size, 2, none⟩ = some (.string ⟨#[]⟩) := hR.blk.cell 2 rfl
      have q2 := hR.blk.free 2
      have r3 : w32.cell? ⟨w.heap.size, 3, none⟩ = some (.string ⟨#[]⟩) := hR.blk.cell 3 rfl
      have q3 := hR.blk.free 3
      have r4 : w32.cell? ⟨w.heap.size, 4, none⟩ = some (.string ⟨#[]⟩) := hR.blk.cell 4 rfl
      have q4 := hR.blk.free 4
      have r5 : w32.cell? ⟨w.heap.size, 5, none⟩ = some (.string ⟨#[]⟩) := hR.blk.cell 5 rfl
      have q5 := hR.blk.free 5
      have r6 : w32.cell? ⟨w.heap.size, 6, none⟩ = some (.int .i8 0) := hR.blk.cell 6 rfl
      have q6 := hR.blk.free 6
      have dk := hX.blk.free 4
      have HR := Lib.hid (hR.far (Nat.ne_of_lt hne) 4 (.string S))
      have HB := Lib.hid (hB.setCell (p := ⟨xb, 4, none⟩) (Nat.le_of_lt hne) (.string S))
      clear hX hR hB
      go_wp2_with fail
      refine bodyPost_ret (results_cell1 rfl _ _ _ _ _ rfl (((((((HR.out.set 0 _).set 1 _).set 2 _).set 3 _).set 4 _).set 5 _).set 6 _).blk Try.underlying47 rfl (by kernel_rfl)) rfl ⟨?_, ?_⟩
      · rw [← HXX.out]
        rfl
      · exact ((((((HB.out.setCell (Nat.le_refl _) _).setCell (Nat.le_refl _) _).setCell (Nat.le_refl _) _).setCell (Nat.le_refl _) _).setCell (Nat.le_refl _) _).setCell (Nat.le_refl _) _).setCell (Nat.le_refl _) _
    | false =>
      rw [hem] at HEM
      have HXX := Lib.hid (show (⟨H.id, H.title, H.link, H.author, C, H.date, H.kind⟩ : Itm) = X by rw [← hX0, ← hHd]; unfold entryP whoP contP; rw [hA, hC, hS, hR0, hem]; rw [show (headQ es i [⟨#[117, 112, 100, 97, 116, 101, 100]⟩, ⟨#[112, 117, 98, 108, 105, 115, 104, 101, 100]⟩]).author = A by unfold headQ; rw [hA]; rfl]; rfl)
      clear hX0 hHd hA hC hS hR0 hem
      go_wp2_with fail
      refine (FA.out _ hB).mono ?_
      rintro r w33 ⟨rfl, hbn⟩
      replace hR := hR.below hbn hR.lt
      replace hX := hX.below hbn hX.lt
      replace hB := hB.trans (hbn.mono hB.size)
      clear hbn
      go_wp2_with fail
      refine (HN.out _ _).mono ?_
      rintro r w34 ⟨rfl, hbn⟩
      replace hR := hR.below hbn hR.lt
      replace hX := hX.below hbn hX.lt
      replace hB := hB.trans (hbn.mono hB.size)
      clear hbn
      go_wp2_with fail
      refine (F1.out _ hB).mono ?_
      rintro r w35 ⟨rfl, hbn⟩
      replace hR := hR.below hbn hR.lt
      replace hX := hX.below hbn hX.lt
      replace hB := hB.trans (hbn.mono hB.size)
      clear hbn
      have ck : w35.cell? ⟨xb, 4, none⟩ = some (.string H.content) := hX.blk.cell 4 rfl
      have dk := hX.blk.free 4
      have HX := Lib.hid (hX.set 4 (.string C))
      have HR := Lib.hid (hR.far (Nat.ne_of_lt hne) 4 (.string C))
      have HB := Lib.hid (hB.setCell (p := ⟨xb, 4, none⟩) (Nat.le_of_lt hne) (.string C))
      clear hX hR hB
      go_wp2_with fail
      have hX := HX.out
      have hR := HR.out
      have hB := HB.out
      clear HX HR HB ck dk
      generalize w35.setCell ⟨xb, 4, none⟩ (.string C) = w36 at hX hR hB ⊢
      refine (HEM.out _).mono ?_
      rintro r w37 ⟨rfl, rfl⟩
      have c0 : w36.cell? ⟨xb, 0, none⟩ = some (.string H.id) := hX.blk.cell 0 rfl
      have c1 : w36.cell? ⟨xb, 1, none⟩ = some (.string H.title) := hX.blk.cell 1 rfl
      have c2 : w36.cell? ⟨xb, 2, none⟩ = some (.string H.link) := hX.blk.cell 2 rfl
      have c3 : w36.cell? ⟨xb, 3, none⟩ = some (.string H.author) := hX.blk.cell 3 rfl
      have c4 : w36.cell? ⟨xb, 4, none⟩ = some (.string C) := hX.blk.cell 4 rfl
      have c5 : w36.cell? ⟨xb, 5, none⟩ = some (.string H.date) := hX.blk.cell 5 rfl
      have c6 : w36.cell? ⟨xb, 6, none⟩ = some (.int .i8 H.kind) := hX.blk.cell 6 rfl
      have r0 : w36.cell? ⟨w.heap.size, 0, none⟩ = some (.string ⟨#[]⟩) := hR.blk.cell 0 rfl
      have q0 := hR.blk.free 0
      have r1 : w36.cell? ⟨w.heap.size, 1, none⟩ = some (.string ⟨#[]⟩) := hR.blk.cell 1 rfl
      have q1 := hR.blk.free 1
      have r2 : w36.cell? ⟨w.heap.size, 2, none⟩ = some (.string ⟨#[]⟩) := hR.blk.cell 2 rfl
      have q2 := hR.blk.free 2
      have r3 : w36.cell? ⟨w.heap.size, 3, none⟩ = some (.string ⟨#[]⟩) := hR.blk.cell 3 rfl
      have q3 := hR.blk.free 3
      have r4 : w36.cell? ⟨w.heap.size, 4, none⟩ = some (.string ⟨#[]⟩) := hR.blk.cell 4 rfl
      have q4 := hR.blk.free 4
      have r5 : w36.cell? ⟨w.heap.size, 5, none⟩ = some (.string ⟨#[]⟩) := hR.blk.cell 5 rfl
      have q5 := hR.blk.free 5
      have r6 : w36.cell? ⟨w.heap.size, 6, none⟩ = some (.int .i8 0) := hR.blk.cell 6 rfl
      have q6 := hR.blk.free 6
      have HR := Lib.hid hR
      have HB := Lib.hid hB
      clear hX hR hB
      go_wp2_with fail
      refine bodyPost_ret (results_cell1 rfl _ _ _ _ _ rfl (((((((HR.out.set 0 _).set 1 _).set 2 _).set 3 _).set 4 _).set 5 _).set 6 _).blk Try.underlying47 rfl (by kernel_rfl)) rfl ⟨?_, ?_⟩
      · rw [← HXX.out]
        rfl
      · exact ((((((HB.out.setCell (Nat.le_refl _) _).setCell (Nat.le_refl _) _).setCell (Nat.le_refl _) _).setCell (Nat.le_refl _) _).setCell (Nat.le_refl _) _).setCell (Nat.le_refl _) _).setCell (Nat.le_refl _) _
end Go.Proofs.Yteefopeclfojiaa
/- 
  Layer 24: the document's Feed.
 -/
namespace Go.Proofs.Yteefopeclfojiaa
open Go.RowKit Go.Sort
attribute [local go_sem] Oper.semAt_some
attribute [local go_sem ↓] app_veil
theorem filter_take {P : Nat → Bool} {K : List Nat} {j x : Nat} (hx : K[j]? = some x) : (K.take (j + 1)).filter P = (K.take j).filter P ++ (if P x then [x] else []) := filter_step hx
theorem RawS.base {a b : Nat} {w : World} {R : RawT} {u : Value} (h : RawS a w R u) (hb : b ≤ a) : RawS b w R u := by
  obtain ⟨v, h1, h2⟩ := h
  exact ⟨v, h1, ownsRow_base h2 hb⟩
/-- what lasts within the loop of Feed. -/
structure FdK (w : World) (xb : Nat) (ks : Value) (K : List Nat) (H : Itm) (L : List Itm) (W : World) : Prop where
  rs : RowAt W w.heap.size 50 #[.int .i8 0, .string ⟨#[]⟩, .string ⟨#[]⟩, .string ⟨#[]⟩, .string ⟨#[]⟩, .string ⟨#[]⟩, .string ⟨#[]⟩, .int .i8 0, .slice none 0 0]
  xs : ∃ v, RowAt W xb 50 (rawC 3 H v) ∧ OwnX (xb + 1) W v L
  ks : W.ownsRow (xb + 1) 3 1 ks K.length ((natC K).map (Value.int .i64))
  be : Below w.heap.size w W
  sz : xb + 1 ≤ W.heap.size
  ne : w.heap.size < xb
theorem FdK.up {w : World} {xb : Nat} {ks : Value} {K : List Nat} {H : Itm} {L : List Itm} {W W' : World} (h : FdK w xb ks K H L W) (hb : Below W.heap.size W W') : FdK w xb ks K H L W' := by
  obtain ⟨v, h1, h2⟩ := h.xs
  exact ⟨h.rs.below hb h.rs.lt, ⟨v, h1.below hb h1.lt, h2.below hb (Nat.le_refl _)⟩, own_below h.ks hb (Nat.le_refl _), h.be.trans (hb.mono h.be.size), Nat.le_trans h.sz hb.size, h.ne⟩
theorem FdK.next {w : World} {xb : Nat} {ks : Value} {K : List Nat} {H : Itm} {L L' : List Itm} {W W' : World} {v' : Value} (h : FdK w xb ks K H L W) (n : RawN W W' xb (xb + 1) 3 H L' v') : FdK w xb ks K H L' W' := by
  have hk := n.kt [3] (by decide) (by decide)
  refine ⟨?_, ⟨v', n.row, n.own⟩, hk.row h.ks (by simp), h.be.trans (n.be _ (Nat.le_of_lt h.ne)), Nat.le_trans h.sz hk.1, h.ne⟩
  exact h.rs.below (n.be xb (Nat.le_refl _)) h.ne
set_option maxRecDepth 100000 in
set_option maxHeartbeats 8000000 in
theorem ref24_Feed (B : Nat) (es : List Evt) (v : Value) (w : World) (hE : FEv B es v w) :
    Calls Try.prog 39 #[v] w fun r w' => ∃ u, r = .returned (.tuple #[u, .bool (isP es)]) ∧ RawS w.heap.size w' (feedQ es) u ∧ Below w.heap.size w w' := by
  obtain ⟨avs, ⟨a, cap, rfl, -⟩, -⟩ := id hE.r
  obtain ⟨nn, hnn⟩ : ∃ n, es.length = n := ⟨_, rfl⟩
  have HNN := Lib.hid hnn
  rw [hnn] at hE ⊢
  clear hnn
  have hB := (Below.refl w.heap.size w).alloc (Nat.le_refl _) (.cells #[.int .i8 0, .string ⟨#[]⟩, .string ⟨#[]⟩, .string ⟨#[]⟩, .string ⟨#[]⟩, .string ⟨#[]⟩, .string ⟨#[]⟩, .int .i8 0, .slice none 0 0] 50)
  have hR := RowAt.new w #[.int .i8 0, .string ⟨#[]⟩, .string ⟨#[]⟩, .string ⟨#[]⟩, .string ⟨#[]⟩, .string ⟨#[]⟩, .string ⟨#[]⟩, .int .i8 0, .slice none 0 0] 50
  have FE := Lib.hid (fun (u : World) (hu : Below w.heap.size w u) => hE.below hu)
  have HIS := Lib.hid (ref24_Is B es (.slice a nn cap) _ (hE.below hB))
  clear hE
  cases hI : isP es with
  | false =>
    rw [hI] at HIS
    have HF := Lib.hid (feedQ_f hI)
    clear hI
    go_enter Try.func39, Try.ntmps39
    go_wp2_with fail
    refine (HIS.out).mono ?_
    rintro r w2 ⟨rfl, hb2⟩
    replace hR := hR.below hb2 hR.lt
    replace hB := hB.trans (hb2.mono hB.size)
    have r0 : w2.cell? ⟨w.heap.size, 0, none⟩ = some (.int .i8 0) := hR.blk.cell 0 rfl
    have q0 := hR.blk.free 0
    have r1 : w2.cell? ⟨w.heap.size, 1, none⟩ = some (.string ⟨#[]⟩) := hR.blk.cell 1 rfl
    have q1 := hR.blk.free 1
    have r2 : w2.cell? ⟨w.heap.size, 2, none⟩ = some (.string ⟨#[]⟩) := hR.blk.cell 2 rfl
    have q2 := hR.blk.free 2
    have r3 : w2.cell? ⟨w.heap.size, 3, none⟩ = some (.string ⟨#[]⟩) := hR.blk.cell 3 rfl
    have q3 := hR.blk.free 3
    have r4 : w2.cell? ⟨w.heap.size, 4, none⟩ = some (.string ⟨#[]⟩) := hR.blk.cell 4 rfl
    have q4 := hR.blk.free 4
    have r5 : w2.cell? ⟨w.heap.size, 5, none⟩ = some (.string ⟨#[]⟩) := hR.blk.cell 5 rfl
    have q5 := hR.blk.free 5
    have r6 : w2.cell? ⟨w.heap.size, 6, none⟩ = some (.string ⟨#[]⟩) := hR.blk.cell 6 rfl
    have q6 := hR.blk.free 6
    have r7 : w2.cell? ⟨w.heap.size, 7, none⟩ = some (.int .i8 0) := hR.blk.cell 7 rfl
    have q7 := hR.blk.free 7
    have r8 : w2.cell? ⟨w.heap.size, 8, none⟩ = some (.slice none 0 0) := hR.blk.cell 8 rfl
    have q8 := hR.blk.free 8
    have HR := Lib.hid hR
    have HB := Lib.hid hB
    clear hR hB hb2 HIS
    go_wp2_with fail
    refine bodyPost_ret (results_cell2 rfl _ _ _ _ _ rfl (raw_set HR.out _ _ _ _ _ _ _ _ _).blk Try.underlying50 rfl (by kernel_rfl)) rfl ⟨_, rfl, ?_, raw_below HB.out (Nat.le_refl _) _ _ _ _ _ _ _ _ _⟩
    rw [HF.out]
    exact ⟨.slice none 0 0, rfl, OwnX.nil _ _⟩
  | true =>
    rw [hI] at HIS
    have HF := Lib.hid (feedQ_t hI)
    clear hI
    obtain ⟨H, hH⟩ : ∃ H, headP es 0 (bothP es 0) = H := ⟨_, rfl⟩
    have HHD := Lib.hid (fun (u : World) (hu : Below w.heap.size w u) => (show Calls Try.prog 73 #[.slice a nn cap, .int .i64 0, .slice (some ⟨u.heap.size, 0, none⟩) 1 1] (u.alloc (.cells #[.string ⟨#[117, 112, 100, 97, 116, 101, 100]⟩] 9)) fun r w' => r = .returned (.agg #[.string H.id, .string H.title, .string H.link, .string H.author, .string H.content, .string H.date, .int .i8 H.kind]) ∧ Below (u.alloc (.cells #[.string ⟨#[117, 112, 100, 97, 116, 101, 100]⟩] 9)).heap.size (u.alloc (.cells #[.string ⟨#[117, 112, 100, 97, 116, 101, 100]⟩] 9)) w' by
      have h1 : Below u.heap.size u (u.alloc (.cells #[.string ⟨#[117, 112, 100, 97, 116, 101, 100]⟩] 9)) := (Below.refl _ u).alloc (Nat.le_refl _) _
      have h2 := ref24_head B es (.slice a nn cap) 0 [⟨#[117, 112, 100, 97, 116, 101, 100]⟩] _ _ ((FE.out u hu).below h1) (StrsAt.of (ns := [⟨#[117, 112, 100, 97, 116, 101, 100]⟩]) (RowAt.new u #[.string ⟨#[117, 112, 100, 97, 116, 101, 100]⟩] 9)) (by decide)
      rw [← hH]
      exact h2))
    have HHQ := Lib.hid hH
    have HN := Lib.hid ref24_Name
    clear hH
    go_enter Try.func39, Try.ntmps39
    go_wp2_with fail
    refine (HIS.out).mono ?_
    rintro r w2 ⟨rfl, hb2⟩
    replace hR := hR.below hb2 hR.lt
    replace hB := hB.trans (hb2.mono hB.size)
    clear hb2 HIS
    go_wp2_with fail
    refine (HHD.out _ hB).mono ?_
    rintro r w3 ⟨rfl, hb3⟩
    have hbs : Below w2.heap.size w2 (w2.alloc (.cells #[.string ⟨#[117, 112, 100, 97, 116, 101, 100]⟩] 9)) := (Below.refl _ w2).alloc (Nat.le_refl _) _
    replace hR := (hR.below hbs hR.lt).below hb3 (Nat.lt_of_lt_of_le hR.lt hbs.size)
    replace hB := (hB.trans (hbs.mono hB.size)).trans (hb3.mono (Nat.le_trans hB.size hbs.size))
    have hne := hR.lt
    have hX := RowAt.new w3 #[.int .i8 3, .string H.id, .string H.title, .string H.link, .string H.author, .string H.content, .string H.date, .int .i8 H.kind, .slice none 0 0] 50
    replace hR := hR.alloc (.cells #[.int .i8 3, .string H.id, .string H.title, .string H.link, .string H.author, .string H.content, .string H.date, .int .i8 H.kind, .slice none 0 0] 50)
    replace hB := hB.alloc hB.size (.cells #[.int .i8 3, .string H.id, .string H.title, .string H.link, .string H.author, .string H.content, .string H.date, .int .i8 H.kind, .slice none 0 0] 50)
    have hsz : (w3.alloc (.cells #[.int .i8 3, .string H.id, .string H.title, .string H.link, .string H.author, .string H.content, .string H.date, .int .i8 H.kind, .slice none 0 0] 50)).heap.size = w3.heap.size + 1 := World.size_alloc _ _
    clear HHD hb3 hbs
    go_wp2_with fail
    generalize w3.alloc (.cells #[.int .i8 3, .string H.id, .string H.title, .string H.link, .string H.author, .string H.content, .string H.date, .int .i8 H.kind, .slice none 0 0] 50) = w4 at hX hR hB hsz ⊢
    generalize w3.heap.size = xb at hX hne hsz ⊢
    have HSZ := Lib.hid hsz
    clear hsz
    have HK := ref16_Kids B es (.slice a nn cap) 0 w4 (FE.out _ hB).r (FE.out _ hB).hB (by have := (FE.out _ hB).n; omega) (FE.out _ hB).z2
    have hkm : ∀ x ∈ kidsP es 0, x < nn := fun x hx => by rw [← HNN.out]; exact kidsP_mem hx
    have hkl := kidsP_len es 0
    have hn9 := (FE.out _ hB).n
    rw [HNN.out] at hkl hn9
    have hna : namedP es 0 entryN = (kidsP es 0).filter fun k => decide ((es[k]?).map Evt.n = some entryN) := rfl
    rw [hna] at HF
    obtain ⟨K, hK⟩ : ∃ K, kidsP es 0 = K := ⟨_, rfl⟩
    rw [hK] at HK hkm hkl HF
    have HKM := Lib.hid hkm
    clear hK hkm hna
    refine HK.mono ?_
    rintro r w5 ⟨u, rfl, hrow, hb5⟩
    obtain ⟨ka, kc, rfl, -⟩ := kid_row hrow
    obtain ⟨m, hm⟩ : ∃ m, K.length = m := ⟨_, rfl⟩
    have HM := Lib.hid hm
    have J5 : FdK w xb (.slice ka K.length kc) K H [] w5 := ⟨hR.below hb5 hR.lt, ⟨.slice none 0 0, hX.below hb5 hX.lt, OwnX.nil _ _⟩, ownsRow_base hrow (by have := HSZ.out; omega), hB.trans (hb5.mono hB.size), Nat.le_trans (by have := HSZ.out; omega) hb5.size, hne⟩
    rw [hm] at hkl J5 ⊢
    clear hrow hm HK hb5 hR hB hX
    go_wp2_with fail
    go_loopw [6] (fun i wr => ∃ j : Nat, i = .int .i64 j ∧ j ≤ m ∧ FdK w xb (.slice ka m kc) K H (((K.take j).filter fun k => decide ((es[k]?).map Evt.n = some entryN)).map (entryK es)) wr) (fun i _ => m - (intOf i).toNat)
    case atStart => exact ⟨0, rfl, by omega, J5⟩
    case round =>
      clear J5
      obtain ⟨j, rfl, hj, J⟩ := hrel
      by_cases hlt : j < m
      · have hd := decide_eq_true (show (j : Int) < (m : Int) by omega)
        obtain ⟨x, hx⟩ : ∃ x, K[j]? = some x := ⟨_, List.getElem?_eq_getElem (by rw [HM.out]; exact hlt)⟩
        have hxn := HKM.out x (List.mem_of_getElem? hx)
        obtain ⟨y, hy⟩ : ∃ y, es[x]? = some y := ⟨_, List.getElem?_eq_getElem (by rw [HNN.out]; exact hxn)⟩
        have hst := filter_take (P := fun k => decide ((es[k]?).map Evt.n = some entryN)) hx
        have hks : ∀ u, FdK w xb (.slice ka m kc) K H (((K.take j).filter fun k => decide ((es[k]?).map Evt.n = some entryN)).map (entryK es)) u → ∃ g, ka = some ⟨g, 0, none⟩ ∧ u.cell? ⟨g, j, none⟩ = some (.int .i64 (x : Int)) := fun u hu => by
          have h1 := hu.ks
          obtain ⟨a1, c1, h2, h3⟩ := kid_row h1
          obtain ⟨g, h4, h5⟩ := h3 j x hx
          injection h2 with h2
          exact ⟨g, h2.trans h4, h5⟩
        have hev : ∀ u, Below w.heap.size w u → ∃ b off, a = some ⟨b, off, none⟩ ∧ u.cell? ⟨b, off + x * 5 + 1, none⟩ = some (.string y.n.1) ∧ u.cell? ⟨b, off + x * 5 + 1 + 1, none⟩ = some (.string y.n.2) := fun u hu => by
          obtain ⟨b, off, cap', av, hv, hbB, c0, c1, c2, -⟩ := (FE.out u hu).r.get (Below.refl _ u) (FE.out u hu).hB x y hy
          injection hv with hv
          exact ⟨b, off, hv, c1, by rw [show off + x * 5 + 1 + 1 = off + x * 5 + 2 by omega]; exact c2⟩
        obtain ⟨g, rfl, k0⟩ := hks wr J
        obtain ⟨b, off, rfl, k1, k2⟩ := hev wr J.be
        have cN := fun (d : Nat) (os : Array Obj) => CallsIn.regrown_of (callsIn_wide (n := 5).2 (HN.out ⟨#[101, 110, 116, 114, 121]⟩ (Go.Sort.grow (redrawn wr d) os)))
        have HKS := Lib.hid hks
        by_cases hnm : y.n = entryN
        · rw [show y.n.1 = spA by rw [hnm]; rfl] at k1
          rw [show y.n.2 = ⟨#[101, 110, 116, 114, 121]⟩ by rw [hnm]; rfl] at k2
          have t1 := toL_self spA
          have t2 := toL_self ⟨#[101, 110, 116, 114, 121]⟩
          rw [if_pos (by rw [hy]; simpa using hnm)] at hst
          have HST := Lib.hid hst
          have HIT0 := fun (u : World) (hu : Below w.heap.size w u) => ref24_entry B es (.slice (some ⟨b, off, none⟩) nn cap) x u (FE.out u hu)
          obtain ⟨X, hX⟩ : ∃ X, entryK es x = X := ⟨_, rfl⟩
          have HIT := Lib.hid (fun (u : World) (hu : Below w.heap.size w u) => (show Calls Try.prog 75 #[.slice (some ⟨b, off, none⟩) nn cap, .int .i64 (x : Nat)] u fun r w' => r = .returned (.agg #[.string X.id, .string X.title, .string X.link, .string X.author, .string X.content, .string X.date, .int .i8 X.kind]) ∧ Below u.heap.size u w' by rw [← hX]; exact HIT0 u hu))
          have HXX := Lib.hid hX
          have hll : (((K.take j).filter fun k => decide ((es[k]?).map Evt.n = some entryN)).map (entryK es)).length < 1000000 := by
            rw [List.length_map]
            have h1 := List.length_filter_le (fun k => decide ((es[k]?).map Evt.n = some entryN)) (K.take j)
            rw [List.length_take] at h1
            omega
          clear hst hks hev hx hy HIT0 hX hnm
          go_wp2_with fail
          have c0 := cell_regrown k0
          have c1 := cell_regrown k1
          have c2 := cell_regrown k2
          refine (wpIn_wide (n := 6)).1 ?_
          refine wpIn_region_below_tail 9 (by kernel_rfl) (by kernel_rfl) (by kernel_rfl) ?_
          simp only [List.take_succ_cons, List.take_zero, List.drop_succ_cons, List.drop_zero]
          repeat (refine wpQuietIn_step (askedR (fun _ => trivial)) (fun K hK => ?_); go_simp; first | (refine hK _ ?_; clear hK K) | (apply Exists.intro; refine ⟨fun _ => ?_, hK _ ?_⟩; (first | exact cN _ _ | exact ⟨by decide, cN _ _⟩); clear hK K))
          clear c0 c1 c2 cN k0 k1 k2
          refine wpQuietIn_nil ?_
          rintro w6 ⟨⟨dq, osq⟩, hw6⟩
          have hb6 : Below wr.heap.size wr w6 := by rw [hw6]; exact below_regrown wr dq osq
          clear hw6
          have J6 := J.up hb6
          gi_wp2_with fail
          have J7 := J6.up (Below.refl _ w6).drew
          obtain ⟨v0, hrow, hown⟩ := J7.xs
          obtain ⟨y1, y2, y3, rfl⟩ := hown.form
          obtain ⟨g', hg', d0⟩ := HKS.out _ J7
          cases hg'
          have d1 : w6.drew.cell? ⟨xb, 8, none⟩ = some (.slice y1 y2 y3) := hrow.blk.cell 8 rfl
          have HI := Lib.hid (HIT.out _ J7.be)
          have RND := Lib.hid (fun (w8 : World) (hb8 : Below w6.drew.heap.size w6.drew w8) => raw_round hrow hown (Nat.lt_succ_self _) J7.sz hb8 X hll)
          have HDL := Lib.hid hll
          clear hrow hown hll J HIT
          go_wp2_with fail
          refine (wpIn_wide (n := 6)).1 ?_
          first | gi_region_with (refine ⟨trivial, ?_⟩; gi_at_call 75; refine (callsIn_wide.2 HI.out).mono ?_; rintro r w8 ⟨rfl, hb8⟩; obtain ⟨z1, z2, z3, w9, e0, e1, HR, e2, e3, NN⟩ := RND.out w8 hb8) | fail
          all_goals
            have HJ := Lib.hid (J7.next NN)
            clear NN J7 J6
            go_wp2_with fail
            refine ⟨⟨j + 1, by go_num, by omega, ?_⟩, by simp [intOf]; omega⟩
            rw [HST.out, List.map_append, List.map_cons, List.map_nil, HXX.out]
            exact HJ.out
        · rw [if_neg (by rw [hy]; simpa using hnm), List.append_nil] at hst
          have HST := Lib.hid hst
          have hn0 := nm_ne hnm
          clear hst hks hev hx hy hnm
          rcases hn0 with g1 | ⟨g1, g2⟩
          all_goals
            rw [show entryN.1 = spA from rfl] at g1
            try rw [show entryN.2.toList = [101, 110, 116, 114, 121] from by rw [ByteArray.toList_eq]; rfl] at g2
            go_wp2_with fail
            have c0 := cell_regrown k0
            have c1 := cell_regrown k1
            have c2 := cell_regrown k2
            refine (wpIn_wide (n := 6)).1 ?_
            refine wpIn_region_below_tail 9 (by kernel_rfl) (by kernel_rfl) (by kernel_rfl) ?_
            simp only [List.take_succ_cons, List.take_zero, List.drop_succ_cons, List.drop_zero]
            repeat (refine wpQuietIn_step (askedR (fun _ => trivial)) (fun K hK => ?_); go_simp; first | (refine hK _ ?_; clear hK K) | (apply Exists.intro; refine ⟨fun _ => ?_, hK _ ?_⟩; (first | exact cN _ _ | exact ⟨by decide, cN _ _⟩); clear hK K))
            clear c0 c1 c2 cN k0 k1 k2
            refine wpQuietIn_nil ?_
            rintro w6 ⟨⟨dq, osq⟩, hw6⟩
            have hb6 : Below wr.heap.size wr w6 := by rw [hw6]; exact below_regrown wr dq osq
            clear hw6
            have J6 := J.up hb6
            gi_wp2_with fail
            go_wp2_with fail
            exact ⟨⟨j + 1, by go_num, by omega, by rw [HST.out]; exact J6⟩, by simp [intOf]; omega⟩
      · have hd := decide_eq_false (show ¬ (j : Int) < (m : Int) by omega)
        rw [List.take_of_length_le (by rw [HM.out]; omega)] at J
        obtain ⟨v0, hrow, hown⟩ := J.xs
        obtain ⟨y1, y2, y3, rfl⟩ := hown.form
        have c0 : wr.cell? ⟨xb, 0, none⟩ = some (.int .i8 3) := hrow.blk.cell 0 rfl
        have c1 : wr.cell? ⟨xb, 1, none⟩ = some (.string H.id) := hrow.blk.cell 1 rfl
        have c2 : wr.cell? ⟨xb, 2, none⟩ = some (.string H.title) := hrow.blk.cell 2 rfl
        have c3 : wr.cell? ⟨xb, 3, none⟩ = some (.string H.link) := hrow.blk.cell 3 rfl
        have c4 : wr.cell? ⟨xb, 4, none⟩ = some (.string H.author) := hrow.blk.cell 4 rfl
        have c5 : wr.cell? ⟨xb, 5, none⟩ = some (.string H.content) := hrow.blk.cell 5 rfl
        have c6 : wr.cell? ⟨xb, 6, none⟩ = some (.string H.date) := hrow.blk.cell 6 rfl
        have c7 : wr.cell? ⟨xb, 7, none⟩ = some (.int .i8 H.kind) := hrow.blk.cell 7 rfl
        have c8 : wr.cell? ⟨xb, 8, none⟩ = some (.slice y1 y2 y3) := hrow.blk.cell 8 rfl
        have r0 : wr.cell? ⟨w.heap.size, 0, none⟩ = some (.int .i8 0) := J.rs.blk.cell 0 rfl
        have q0 := J.rs.blk.free 0
        have r1 : wr.cell? ⟨w.heap.size, 1, none⟩ = some (.string ⟨#[]⟩) := J.rs.blk.cell 1 rfl
        have q1 := J.rs.blk.free 1
        have r2 : wr.cell? ⟨w.heap.size, 2, none⟩ = some (.string ⟨#[]⟩) := J.rs.blk.cell 2 rfl
        have q2 := J.rs.blk.free 2
        have r3 : wr.cell? ⟨w.heap.size, 3, none⟩ = some (.string ⟨#[]⟩) := J.rs.blk.cell 3 rfl
        have q3 := J.rs.blk.free 3
        have r4 : wr.cell? ⟨w.heap.size, 4, none⟩ = some (.string ⟨#[]⟩) := J.rs.blk.cell 4 rfl
        have q4 := J.rs.blk.free 4
        have r5 : wr.cell? ⟨w.heap.size, 5, none⟩ = some (.string ⟨#[]⟩) := J.rs.blk.cell 5 rfl
        have q5 := J.rs.blk.free 5
        have r6 : wr.cell? ⟨w.heap.size, 6, none⟩ = some (.string ⟨#[]⟩) := J.rs.blk.cell 6 rfl
        have q6 := J.rs.blk.free 6
        have r7 : wr.cell? ⟨w.heap.size, 7, none⟩ = some (.int .i8 0) := J.rs.blk.cell 7 rfl
        have q7 := J.rs.blk.free 7
        have r8 : wr.cell? ⟨w.heap.size, 8, none⟩ = some (.slice none 0 0) := J.rs.blk.cell 8 rfl
        have q8 := J.rs.blk.free 8
        have HR := Lib.hid J.rs
        have HB := Lib.hid J.be
        have HO := Lib.hid hown
        have HNE := Lib.hid J.ne
        clear J hrow hown
        go_wp2_with fail
        refine bodyPost_ret (results_cell2 rfl _ _ _ _ _ rfl (raw_set HR.out _ _ _ _ _ _ _ _ _).blk Try.underlying50 rfl (by kernel_rfl)) rfl ⟨_, rfl, ?_, raw_below HB.out (Nat.le_refl _) _ _ _ _ _ _ _ _ _⟩
        rw [HF.out, HHQ.out]
        refine ⟨.slice y1 y2 y3, rfl, ?_⟩
        have h1 := raw_own HO.out (b := w.heap.size) (by have := HNE.out; omega) (.int .i8 3) (.string H.id) (.string H.title) (.string H.link) (.string H.author) (.string H.content) (.string H.date) (.int .i8 H.kind) (.slice y1 y2 y3)
        exact ownsRow_base h1 (by have := HNE.out; omega)
end Go.Proofs.Yteefopeclfojiaa
/- 
  Layer 24 in plain terms: a feed of a tree.
 -/
namespace Go.Proofs.Yteefopeclfojiaa
open Go.RowKit
def headTT (F : Fo) : Itm := headT F (bothT F)
def entryTT (F : Fo) : Itm := entryT F (bothT F)
/-- a feed of a tree. -/
def feedTQ (T : KidT) : RawT := if T.1 = feedN then ⟨3, headTT T.2.2, (nmdT T.2.2 entryN).map fun U => entryTT U.2.2⟩ else rawNone
section
variable {es : List Evt} {g : Gr} {p : Nat} {T : KidT}
theorem OnT.both_ (hG : growP es = some g) (h : OnT es (endO g) p T) : bothP es p = bothT T.2.2 := by
  unfold bothP bothT
  rw [h.txt hG, h.txt hG, h.link hG]
theorem OnT.head_ (hG : growP es = some g) (h : OnT es (endO g) p T) : headP es p (bothP es p) = headTT T.2.2 := by
  unfold headP headTT headT
  rw [h.both_ hG, h.date hG, h.author hG]
theorem OnT.entry_ (hG : growP es = some g) (h : OnT es (endO g) p T) : entryK es p = entryTT T.2.2 := by
  unfold entryK entryP entryTT entryT whoP whoT contP contT
  rw [h.both_ hG, h.date hG, h.author hG, h.txt hG, h.txt hG, h.txt hG]
theorem feed_tree (hG : growP es = some g) (h : OnT es (endO g) 0 T) : feedQ es = feedTQ T ∧ isP es = decide (T.1 = feedN) := by
  have hi : isP es = decide (T.1 = feedN) := by
    unfold isP
    rw [hG, h.get]
    simp [evS]
  refine ⟨?_, hi⟩
  unfold feedQ feedTQ
  rw [hi]
  by_cases hn : T.1 = feedN
  · rw [if_pos (by simpa using hn), if_pos hn]
    congr 1
    · exact h.head_ hG
    · exact (h.named hG entryN).map fun a b hab => hab.entry_ hG
  · rw [if_neg (by simpa using hn), if_neg hn]
end
theorem feed_flT (T : KidT) (hw : WfT T) : feedQ (flT T) = feedTQ T ∧ isP (flT T) = decide (T.1 = feedN) := by
  obtain ⟨g, hG, h⟩ := tree_whole T hw
  exact feed_tree hG h
/-- the document's example. -/
def wkT : KidT := (feedN, [], .elt entryN [] (.elt (spA, ⟨#[105, 100]⟩) [] (.txt ⟨#[120]⟩ .nil) (.elt (spA, ⟨#[108, 105, 110, 107]⟩) [((⟨#[]⟩, ⟨#[104, 114, 101, 102]⟩), ⟨#[117]⟩)] .nil .nil)) .nil)
theorem wkT_wf : WfT wkT := ⟨by decide +kernel, by decide +kernel, by decide +kernel, by decide +kernel, ⟨by decide +kernel, by decide +kernel, ⟨rfl, by decide +kernel, trivial⟩, by decide +kernel, by decide +kernel, trivial, trivial⟩, trivial⟩
theorem wkT_feed : feedTQ wkT = ⟨3, Itm.none, [⟨⟨#[120]⟩, ⟨#[]⟩, ⟨#[117]⟩, ⟨#[]⟩, ⟨#[]⟩, ⟨#[]⟩, 0⟩]⟩ := by kernel_rfl
end Go.Proofs.Yteefopeclfojiaa
