/-
  Parts RsJ RsK Qh of this seat's texts, in one file: contracts of functions that the law reaches, and the plain laws behind them. No condition.
-/
import Derived.Test.YteefopeclfojiaaG13
import Derived.Test.YteefopeclfojiaaG12
import Derived.Test.YteefopeclfojiaaG8
import Derived.Sort.QuietTacIn
import Derived.Test.YteefopeclfojiaaG11
import Derived.Test.YteefopeclfojiaaG4
import Derived.OrdersHeld
/- 
  Layer 23: the walk of (form).found: what is found in a channel or an item.
 -/
namespace Go.Proofs.Yteefopeclfojiaa
open Go.RowKit Go.Sort
attribute [local go_sem] Oper.semAt_some
set_option maxRecDepth 100000 in
set_option maxHeartbeats 4000000 in
theorem rss_get (B : Nat) (es : List Evt) (v : Value) (ns : List NmT) (nv : Value) (Bl : Nat) (w : World) (hE : REv B es v w) (hb : Boxed w Bl 22 v) (hN : NsR w nv ns) (hns : ns.length ≤ 1000000) :
    Calls Try.prog 118 #[nv, .pointer (some ⟨Bl, 0, none⟩)] w fun r w' => r = .returned (.string (fieldP es ns).1) ∧ Below w.heap.size w w' := by
  have HF := Lib.hid (rss_Field B es v ns nv w hE hN hns)
  have c0 := hb.cell
  obtain ⟨avs, ⟨a, cap, rfl, -⟩, -⟩ := id hE.f.r
  obtain ⟨na, nc, rfl⟩ := hN.form
  clear hE hb hN
  go_enter Try.func118, Try.ntmps118
  go_wp2_with fail
  refine HF.out.mono ?_
  rintro r w1 ⟨rfl, hb1⟩
  go_wp2_with fail
  go_ret
  exact ⟨rfl, hb1⟩
/-- what lasts while an item is found. -/
structure FoS (v v1 v2 v3 v4 : Value) (ab : Bool) (w : World) (X : Itm) (W : World) : Prop where
  b : Below w.heap.size w W
  rf : RowAt W w.heap.size 102 #[v1, v2, v3, v4, .bool ab]
  bl : Boxed W (w.heap.size + 1) 22 v
  ri : RowAt W (w.heap.size + 1 + 1) 47 (itV X)
theorem FoS.up {v v1 v2 v3 v4 : Value} {ab : Bool} {w : World} {X : Itm} {W W' : World} (h : FoS v v1 v2 v3 v4 ab w X W) (hb : Below W.heap.size W W') : FoS v v1 v2 v3 v4 ab w X W' := ⟨bt h.b hb, h.rf.below hb h.rf.lt, (hb.block _ h.bl.lt).trans h.bl, h.ri.below hb h.ri.lt⟩
theorem FoS.set {v v1 v2 v3 v4 : Value} {ab : Bool} {w : World} {X Y : Itm} {W : World} (h : FoS v v1 v2 v3 v4 ab w X W) (j : Nat) (u : Value) (hy : (itV X).setIfInBounds j u = itV Y) : FoS v v1 v2 v3 v4 ab w Y (W.setCell ⟨w.heap.size + 1 + 1, j, none⟩ u) :=
  ⟨h.b.setCell (p := ⟨w.heap.size + 1 + 1, j, none⟩) (by show _ ≤ w.heap.size + 1 + 1; omega) u, h.rf.far (by omega) j u, (heap_setCell_other W ⟨w.heap.size + 1 + 1, j, none⟩ (w.heap.size + 1) u (by show w.heap.size + 1 ≠ w.heap.size + 1 + 1; omega)).trans h.bl, by rw [← hy]; exact h.ri.set j u⟩
theorem FoS.lt {v v1 v2 v3 v4 : Value} {ab : Bool} {w : World} {X : Itm} {W : World} (h : FoS v v1 v2 v3 v4 ab w X W) : w.heap.size + 3 ≤ W.heap.size := h.ri.lt
/-- an item's cells, all set. -/
def World.setItm (W : World) (b : Nat) (u0 u1 u2 u3 u4 u5 u6 : Value) : World := ((((((W.setCell ⟨b, 0, none⟩ u0).setCell ⟨b, 1, none⟩ u1).setCell ⟨b, 2, none⟩ u2).setCell ⟨b, 3, none⟩ u3).setCell ⟨b, 4, none⟩ u4).setCell ⟨b, 5, none⟩ u5).setCell ⟨b, 6, none⟩ u6
theorem itm_set {W : World} {b : Nat} {X : Itm} (h : RowAt W b 47 (itV X)) (u0 u1 u2 u3 u4 u5 u6 : Value) : RowAt (World.setItm W b u0 u1 u2 u3 u4 u5 u6) b 47 #[u0, u1, u2, u3, u4, u5, u6] := by
  unfold World.setItm
  have h := ((((((h.set 0 u0).set 1 u1).set 2 u2).set 3 u3).set 4 u4).set 5 u5).set 6 u6
  simpa [itV] using h
theorem itm_below {W0 W : World} {B b : Nat} (h : Below B W0 W) (hb : B ≤ b) (u0 u1 u2 u3 u4 u5 u6 : Value) : Below B W0 (World.setItm W b u0 u1 u2 u3 u4 u5 u6) := by
  unfold World.setItm
  exact ((((((h.setCell (p := ⟨b, 0, none⟩) hb u0).setCell (p := ⟨b, 1, none⟩) hb u1).setCell (p := ⟨b, 2, none⟩) hb u2).setCell (p := ⟨b, 3, none⟩) hb u3).setCell (p := ⟨b, 4, none⟩) hb u4).setCell (p := ⟨b, 5, none⟩) hb u5).setCell (p := ⟨b, 6, none⟩) hb u6
theorem foundF_fin {v v1 v2 v3 v4 : Value} {ab : Bool} {w : World} {X : Itm} {W : World} (h : FoS v v1 v2 v3 v4 ab w X W) :
    RowAt (World.setItm W (w.heap.size + 1 + 1) (.string X.id) (.string X.title) (.string X.link) (.string X.author) (.string X.content) (.string X.date) (.int .i8 X.kind)) (w.heap.size + 1 + 1) 47 #[.string X.id, .string X.title, .string X.link, .string X.author, .string X.content, .string X.date, .int .i8 X.kind] ∧
      Below w.heap.size w (World.setItm W (w.heap.size + 1 + 1) (.string X.id) (.string X.title) (.string X.link) (.string X.author) (.string X.content) (.string X.date) (.int .i8 X.kind)) :=
  ⟨itm_set h.ri _ _ _ _ _ _ _, itm_below h.b (by omega) _ _ _ _ _ _ _⟩
/-- the attributes' values are no longer than those of the events. -/
theorem attr_size {es : List Evt} {i : Int} {nm : NmT} {s : ByteArray} {m : Nat} (h : attrP es i nm = some s) (ha : ∀ e ∈ es, ∀ x ∈ e.at_, x.2.size ≤ m) : s.size ≤ m := by
  unfold attrP at h
  cases hA : atP es i with
  | none => rw [hA] at h; cases h
  | some g =>
    rw [hA] at h
    simp only at h
    cases hx : es[i.toNat]? with
    | none => rw [hx] at h; cases h
    | some e =>
      rw [hx] at h
      obtain ⟨a, h1, h2⟩ := Option.map_eq_some_iff.1 (show (e.at_.find? fun a => decide (a.1 = nm)).map (fun a => a.2) = some s from h)
      rw [← h2]
      exact ha e (List.mem_of_getElem? hx) a (List.mem_of_find?_eq_some h1)
attribute [local go_sem ↓] app_veil
set_option maxRecDepth 100000 in
set_option maxHeartbeats 16000000 in
theorem rss_found (B : Nat) (es : List Evt) (v : Value) (F : FormT) (fv : Value) (base : Nat) (w : World) (hE : REv B es v w) (hF : FormAt w fv F base) (h1 : F.id.length ≤ 1000) (h2 : F.author.length ≤ 1000) (h3 : F.content.length ≤ 1000) (h4 : F.date.length ≤ 1000) :
    Calls Try.prog 84 #[fv, v] w fun r w' => r = .returned (.agg (itV (foundP es F))) ∧ Below w.heap.size w w' := by
  obtain ⟨a1, p1, a2, p2, a3, p3, a4, p4, rfl, o1, o2, o3, o4⟩ := hF.at_
  obtain ⟨avs, ⟨a, cap, rfl, -⟩, -⟩ := id hE.f.r
  have FE := Lib.hid (fun (u : World) (hu : Below w.heap.size w u) => hE.below hu)
  have N1 := Lib.hid (fun (u : World) (hu : Below w.heap.size w u) => o1.reads.below hu)
  have N2 := Lib.hid (fun (u : World) (hu : Below w.heap.size w u) => o2.reads.below hu)
  have N3 := Lib.hid (fun (u : World) (hu : Below w.heap.size w u) => o3.reads.below hu)
  have N4 := Lib.hid (fun (u : World) (hu : Below w.heap.size w u) => o4.reads.below hu)
  have S0 : FoS (.slice a es.length cap) (.slice a1 F.id.length p1) (.slice a2 F.author.length p2) (.slice a3 F.content.length p3) (.slice a4 F.date.length p4) F.about w Itm.none (((w.alloc (.cells #[.slice a1 F.id.length p1, .slice a2 F.author.length p2, .slice a3 F.content.length p3, .slice a4 F.date.length p4, .bool F.about] 102)).alloc (.cells #[.slice a es.length cap] 22)).alloc (.cells #[.string ⟨#[]⟩, .string ⟨#[]⟩, .string ⟨#[]⟩, .string ⟨#[]⟩, .string ⟨#[]⟩, .string ⟨#[]⟩, .int .i8 0] 47)) := by
    have k1 := Boxed.new (w.alloc (.cells #[.slice a1 F.id.length p1, .slice a2 F.author.length p2, .slice a3 F.content.length p3, .slice a4 F.date.length p4, .bool F.about] 102)) 22 (.slice a es.length cap)
    have k2 := RowAt.new ((w.alloc (.cells #[.slice a1 F.id.length p1, .slice a2 F.author.length p2, .slice a3 F.content.length p3, .slice a4 F.date.length p4, .bool F.about] 102)).alloc (.cells #[.slice a es.length cap] 22)) #[.string ⟨#[]⟩, .string ⟨#[]⟩, .string ⟨#[]⟩, .string ⟨#[]⟩, .string ⟨#[]⟩, .string ⟨#[]⟩, .int .i8 0] 47
    simp only [World.size_alloc] at k1 k2
    exact ⟨(((Below.refl w.heap.size w).alloc (Nat.le_refl _) _).alloc (by simp) _).alloc (by simp; omega) _, ((RowAt.new w _ _).alloc _).alloc _, k1.alloc _, k2⟩
  have HFD : foundP es F = ⟨idF F.about (attrP es 0 aboutN) (fieldP es F.id).1, (fieldP es titleN).1, (fieldP es linkN).1, (fieldP es F.author).1, (fieldP es F.content).1, (fieldP es F.date).1, kindD (fieldP es F.date).2 F.date.length⟩ := rfl
  rw [HFD]
  clear HFD hF o1 o2 o3 o4 hE
  obtain ⟨sT, hsT⟩ : ∃ s, (fieldP es titleN).1 = s := ⟨_, rfl⟩
  obtain ⟨sL, hsL⟩ : ∃ s, (fieldP es linkN).1 = s := ⟨_, rfl⟩
  obtain ⟨sI, hsI⟩ : ∃ s, (fieldP es F.id).1 = s := ⟨_, rfl⟩
  obtain ⟨sA, hsA⟩ : ∃ s, (fieldP es F.author).1 = s := ⟨_, rfl⟩
  obtain ⟨sC, hsC⟩ : ∃ s, (fieldP es F.content).1 = s := ⟨_, rfl⟩
  have HT := Lib.hid hsT
  have HL := Lib.hid hsL
  have HI := Lib.hid hsI
  have HA := Lib.hid hsA
  have HC := Lib.hid hsC
  rw [hsT, hsL, hsI, hsA, hsC]
  clear hsT hsL hsI hsA hsC
  have hRs : ∀ s, attrP es 0 aboutN = some s → s.size ≤ 137438953472 := fun s h => attr_size h (FE.out w (Below.refl _ _)).a
  obtain ⟨R, hR⟩ : ∃ R, attrP es 0 aboutN = R := ⟨_, rfl⟩
  have HRR := Lib.hid hR
  rw [hR] at hRs ⊢
  obtain ⟨dp, hdp⟩ : ∃ d, fieldP es F.date = d := ⟨_, rfl⟩
  have HDP := Lib.hid hdp
  rw [hdp]
  clear hR hdp
  unfold formV
  obtain ⟨n1, hn1⟩ : ∃ n, F.id.length = n := ⟨_, rfl⟩
  obtain ⟨n2, hn2⟩ : ∃ n, F.author.length = n := ⟨_, rfl⟩
  obtain ⟨n3, hn3⟩ : ∃ n, F.content.length = n := ⟨_, rfl⟩
  obtain ⟨n4, hn4⟩ : ∃ n, F.date.length = n := ⟨_, rfl⟩
  rw [hn1] at N1
  rw [hn2] at N2
  rw [hn3] at N3
  rw [hn4] at N4
  have h1' := Lib.hid h1
  have h2' := Lib.hid h2
  have h3' := Lib.hid h3
  have h4' := Lib.hid h4
  rw [hn4] at h4
  have HN4 := Lib.hid hn4
  rw [hn1, hn2, hn3, hn4] at S0
  rw [hn1, hn2, hn3, hn4]
  clear hn1 hn2 hn3 hn4 h1 h2 h3
  obtain ⟨ab, hab⟩ : ∃ b, F.about = b := ⟨_, rfl⟩
  rw [hab] at S0 ⊢
  clear hab
  obtain ⟨W0, hW0⟩ : ∃ x, (((w.alloc (.cells #[.slice a1 n1 p1, .slice a2 n2 p2, .slice a3 n3 p3, .slice a4 n4 p4, .bool ab] 102)).alloc (.cells #[.slice a es.length cap] 22)).alloc (.cells #[.string ⟨#[]⟩, .string ⟨#[]⟩, .string ⟨#[]⟩, .string ⟨#[]⟩, .string ⟨#[]⟩, .string ⟨#[]⟩, .int .i8 0] 47)) = x := ⟨_, rfl⟩
  have hs1 : StrsAt (W0.alloc (.cells #[.string ⟨#[116, 105, 116, 108, 101]⟩] 9)) (.slice (some ⟨w.heap.size + 1 + 1 + 1, 0, none⟩) 1 1) [⟨#[116, 105, 116, 108, 101]⟩] := by
    have h := strs_lit W0 #[.string ⟨#[116, 105, 116, 108, 101]⟩] [⟨#[116, 105, 116, 108, 101]⟩] 1 rfl rfl
    rw [show W0.heap.size = w.heap.size + 1 + 1 + 1 by rw [← hW0]; simp] at h
    exact h
  have HW0 := Lib.hid hW0
  rw [hW0] at S0
  clear hW0
  go_enter Try.func84, Try.ntmps84
  go_wp2_with fail
  rw [HW0.out]
  have S1 := S0.up ((Below.refl _ W0).alloc (Nat.le_refl _) (.cells #[.string ⟨#[116, 105, 116, 108, 101]⟩] 9))
  generalize W0.alloc (.cells #[.string ⟨#[116, 105, 116, 108, 101]⟩] 9) = x1 at S1 hs1 ⊢
  refine (rss_plain _ _ _ hs1 (by decide)).mono ?_
  rintro r w1 ⟨b1, e1, rfl, hown1, hb1⟩
  clear S0 hs1 HW0
  go_wp2_with fail
  refine (rss_core _ _).mono ?_
  rintro r w2 ⟨rfl, hb2⟩
  obtain ⟨b3, e3, w3, hrun3, hown3, hb3⟩ := (hown1.below hb2).app1 (spC, ⟨#[116, 105, 116, 108, 101]⟩) (Nat.le_trans hb1.size hb2.size) (by decide)
  have S3 := S1.up ((bt hb1 hb2).trans hb3)
  have HR3 := Lib.hid hrun3
  clear S1 hown1 hb1 hb2 hb3 hrun3
  have HG3 := Lib.hid (rss_get B es _ titleN _ _ w3 (FE.out w3 S3.b) S3.bl hown3.reads (by decide))
  go_wp2_with (at_builtin; refine wpList_append_run rfl _ _ _ _ rfl _ _ rfl rfl _ _ HR3.out ?_)
  refine HG3.out.mono ?_
  rw [HT.out]
  rintro r w4 ⟨rfl, hb4⟩
  have S4 := (S3.up hb4).up ((Below.refl _ w4).alloc (Nat.le_refl _) (.cells #[.string ⟨#[108, 105, 110, 107]⟩] 9))
  have hs4 := strs_lit w4 #[.string ⟨#[108, 105, 110, 107]⟩] [⟨#[108, 105, 110, 107]⟩] 1 rfl rfl
  clear hown3 hb4 S3 HG3
  go_wp2_with fail
  generalize w4.alloc (.cells #[.string ⟨#[108, 105, 110, 107]⟩] 9) = x4 at S4 hs4 ⊢
  refine (rss_plain _ _ _ hs4 (by decide)).mono ?_
  rintro r w5 ⟨b5, e5, rfl, hown5, hb5⟩
  have S5 := S4.up hb5
  have HG5 := Lib.hid (rss_get B es _ linkN _ _ w5 (FE.out w5 S5.b) S5.bl hown5.reads (by decide))
  clear S4 hs4 hb5
  go_wp2_with fail
  refine HG5.out.mono ?_
  rw [HL.out]
  rintro r w6 ⟨rfl, hb6⟩
  have S6 := S5.up hb6
  have c1 : w6.cell? ⟨w.heap.size + 1 + 1, 1, none⟩ = some (.string ⟨#[]⟩) := S6.ri.blk.cell 1 rfl
  have c2 : w6.cell? ⟨w.heap.size + 1 + 1, 2, none⟩ = some (.string ⟨#[]⟩) := S6.ri.blk.cell 2 rfl
  have f1 : w6.frozen? ⟨w.heap.size + 1 + 1, 1, none⟩ = false := S6.ri.blk.free 1
  have f2 : w6.frozen? ⟨w.heap.size + 1 + 1, 2, none⟩ = false := S6.ri.blk.free 2
  have S7 := (S6.set (Y := { Itm.none with title := sT }) 1 (.string sT) rfl).set (Y := { Itm.none with title := sT, link := sL }) 2 (.string sL) rfl
  have HS7 := Lib.hid S7
  clear hown5 S5 HG5 hb6 S6 S7
  go_wp2_with fail
  have S7 := HS7.out
  generalize (w6.setCell ⟨w.heap.size + 1 + 1, 1, none⟩ (.string sT)).setCell ⟨w.heap.size + 1 + 1, 2, none⟩ (.string sL) = w7 at S7 ⊢
  clear HS7 c1 c2 f1 f2
  have k0 := cell_regrown (show w7.cell? ⟨w.heap.size, 0, none⟩ = some (.slice a1 n1 p1) from S7.rf.blk.cell 0 rfl)
  have k1 := cell_regrown (show w7.cell? ⟨w.heap.size, 1, none⟩ = some (.slice a2 n2 p2) from S7.rf.blk.cell 1 rfl)
  have k2 := cell_regrown (show w7.cell? ⟨w.heap.size, 2, none⟩ = some (.slice a3 n3 p3) from S7.rf.blk.cell 2 rfl)
  have cI := fun (d : Nat) (os : Array Obj) => CallsIn.regrown_of (callsIn_wide (n := 5).2 (rss_get B es _ F.id (.slice a1 n1 p1) (w.heap.size + 1) (grow (redrawn w7 d) os) (FE.out _ (bt S7.b (below_regrown w7 d os))) (S7.up (below_regrown w7 d os)).bl (N1.out _ (bt S7.b (below_regrown w7 d os))) (by have := h1'.out; omega)))
  have cA := fun (d : Nat) (os : Array Obj) => CallsIn.regrown_of (callsIn_wide (n := 5).2 (rss_get B es _ F.author (.slice a2 n2 p2) (w.heap.size + 1) (grow (redrawn w7 d) os) (FE.out _ (bt S7.b (below_regrown w7 d os))) (S7.up (below_regrown w7 d os)).bl (N2.out _ (bt S7.b (below_regrown w7 d os))) (by have := h2'.out; omega)))
  have cC := fun (d : Nat) (os : Array Obj) => CallsIn.regrown_of (callsIn_wide (n := 5).2 (rss_get B es _ F.content (.slice a3 n3 p3) (w.heap.size + 1) (grow (redrawn w7 d) os) (FE.out _ (bt S7.b (below_regrown w7 d os))) (S7.up (below_regrown w7 d os)).bl (N3.out _ (bt S7.b (below_regrown w7 d os))) (by have := h3'.out; omega)))
  rw [HI.out] at cI
  rw [HA.out] at cA
  rw [HC.out] at cC
  refine (wpIn_wide (n := 6)).1 ?_
  refine wpIn_region_below_tail 13 (by kernel_rfl) (by kernel_rfl) (by kernel_rfl) ?_
  simp only [List.take_succ_cons, List.take_zero, List.drop_succ_cons, List.drop_zero]
  iterate 3 (refine wpQuietIn_step (askedR (fun _ => trivial)) (fun K hK => ?_); go_simp; refine hK _ ?_; clear hK K)
  refine wpQuietIn_step (askedR (fun _ => trivial)) (fun K hK => ?_)
  go_simp
  apply Exists.intro
  refine ⟨fun _ => cI _ _, hK _ ?_⟩
  clear hK K cI
  iterate 3 (refine wpQuietIn_step (askedR (fun _ => trivial)) (fun K hK => ?_); go_simp; refine hK _ ?_; clear hK K)
  refine wpQuietIn_step (askedR (fun _ => trivial)) (fun K hK => ?_)
  go_simp
  apply Exists.intro
  refine ⟨fun _ => cA _ _, hK _ ?_⟩
  clear hK K cA
  iterate 3 (refine wpQuietIn_step (askedR (fun _ => trivial)) (fun K hK => ?_); go_simp; refine hK _ ?_; clear hK K)
  refine wpQuietIn_step (askedR (fun _ => trivial)) (fun K hK => ?_)
  go_simp
  apply Exists.intro
  refine ⟨fun _ => cC _ _, hK _ ?_⟩
  clear hK K cC
  refine wpQuietIn_step (askedR (fun _ => trivial)) (fun K hK => ?_); go_simp; refine hK _ ?_; clear hK K
  clear k0 k1 k2
  refine wpQuietIn_nil ?_
  rintro w8 ⟨⟨dq, osq⟩, hw8⟩
  have S8 := S7.up (show Below w7.heap.size w7 w8 by rw [hw8]; exact below_regrown w7 dq osq)
  clear hw8 S7
  have c0 : w8.cell? ⟨w.heap.size + 1 + 1, 0, none⟩ = some (.string ⟨#[]⟩) := S8.ri.blk.cell 0 rfl
  have c3 : w8.cell? ⟨w.heap.size + 1 + 1, 3, none⟩ = some (.string ⟨#[]⟩) := S8.ri.blk.cell 3 rfl
  have c4 : w8.cell? ⟨w.heap.size + 1 + 1, 4, none⟩ = some (.string ⟨#[]⟩) := S8.ri.blk.cell 4 rfl
  have f0 : w8.frozen? ⟨w.heap.size + 1 + 1, 0, none⟩ = false := S8.ri.blk.free 0
  have f3 : w8.frozen? ⟨w.heap.size + 1 + 1, 3, none⟩ = false := S8.ri.blk.free 3
  have f4 : w8.frozen? ⟨w.heap.size + 1 + 1, 4, none⟩ = false := S8.ri.blk.free 4
  have HS9 := Lib.hid (((S8.set (Y := { Itm.none with id := sI, title := sT, link := sL }) 0 (.string sI) rfl).set (Y := { Itm.none with id := sI, title := sT, link := sL, author := sA }) 3 (.string sA) rfl).set (Y := { Itm.none with id := sI, title := sT, link := sL, author := sA, content := sC }) 4 (.string sC) rfl)
  clear S8
  gi_wp2_with fail
  have S9 := HS9.out
  generalize ((w8.setCell ⟨w.heap.size + 1 + 1, 0, none⟩ (.string sI)).setCell ⟨w.heap.size + 1 + 1, 3, none⟩ (.string sA)).setCell ⟨w.heap.size + 1 + 1, 4, none⟩ (.string sC) = w9 at S9 ⊢
  clear HS9 c0 c3 c4 f0 f3 f4
  have HAt : Calls Try.prog 112 #[.slice a es.length cap, .int .i64 0, .agg #[.string spRdf, .string ⟨#[97, 98, 111, 117, 116]⟩]] w9 fun r w' => r = .returned (.tuple #[.string (R.getD ⟨#[]⟩), .bool R.isSome]) ∧ Below w9.heap.size w9 w' := by
    have hE9 := FE.out w9 S9.b
    have h := events_Attr B es (.slice a es.length cap) 0 aboutN w9 hE9.f.r hE9.f.hB (by have := hE9.f.n; omega) hE9.f.z
    rw [HRR.out] at h
    exact h.mono fun _ _ h => h.eq
  have l0 : w9.cell? ⟨w.heap.size + 1, 0, none⟩ = some (.slice a es.length cap) := S9.bl.cell
  go_wp2_with fail
  refine HAt.mono ?_
  rintro r w10 ⟨rfl, hb10⟩
  have S10 := S9.up hb10
  clear S9 hb10 HAt l0
  have g4 : w10.cell? ⟨w.heap.size, 4, none⟩ = some (.bool ab) := S10.rf.blk.cell 4 rfl
  have g3 : w10.cell? ⟨w.heap.size, 3, none⟩ = some (.slice a4 n4 p4) := S10.rf.blk.cell 3 rfl
  have l0 : w10.cell? ⟨w.heap.size + 1, 0, none⟩ = some (.slice a es.length cap) := S10.bl.cell
  cases ab with
  | false =>
    obtain ⟨iv, hiv⟩ : ∃ x, x = sI := ⟨_, rfl⟩
    have HV := Lib.hid (show idF false R sI = iv by rw [hiv]; rfl)
    rw [← hiv] at S10
    clear hiv
    go_wp2_with fail
    have S11 : FoS (.slice a es.length cap) (.slice a1 n1 p1) (.slice a2 n2 p2) (.slice a3 n3 p3) (.slice a4 n4 p4) false w ⟨iv, sT, sL, sA, sC, ⟨#[]⟩, 0⟩ _ := S10
    refine (rss_Field B es _ F.date _ _ (FE.out _ S11.b) (N4.out _ S11.b) (by have := h4'.out; omega)).mono ?_
    rintro r w12 ⟨rfl, hb12⟩
    have S12 := S11.up hb12
    clear S11 hb12
    rw [HDP.out]
    have hor := fieldP_or es F.date
    rw [HDP.out] at hor
    have x0 : w12.cell? ⟨w.heap.size + 1 + 1, 0, none⟩ = some (.string iv) := S12.ri.blk.cell 0 rfl
    have x1 : w12.cell? ⟨w.heap.size + 1 + 1, 1, none⟩ = some (.string sT) := S12.ri.blk.cell 1 rfl
    have x2 : w12.cell? ⟨w.heap.size + 1 + 1, 2, none⟩ = some (.string sL) := S12.ri.blk.cell 2 rfl
    have x3 : w12.cell? ⟨w.heap.size + 1 + 1, 3, none⟩ = some (.string sA) := S12.ri.blk.cell 3 rfl
    have x4 : w12.cell? ⟨w.heap.size + 1 + 1, 4, none⟩ = some (.string sC) := S12.ri.blk.cell 4 rfl
    have x5 : w12.cell? ⟨w.heap.size + 1 + 1, 5, none⟩ = some (.string ⟨#[]⟩) := S12.ri.blk.cell 5 rfl
    have x6 : w12.cell? ⟨w.heap.size + 1 + 1, 6, none⟩ = some (.int .i8 0) := S12.ri.blk.cell 6 rfl
    have y0 : w12.frozen? ⟨w.heap.size + 1 + 1, 0, none⟩ = false := S12.ri.blk.free 0
    have y1 : w12.frozen? ⟨w.heap.size + 1 + 1, 1, none⟩ = false := S12.ri.blk.free 1
    have y2 : w12.frozen? ⟨w.heap.size + 1 + 1, 2, none⟩ = false := S12.ri.blk.free 2
    have y3 : w12.frozen? ⟨w.heap.size + 1 + 1, 3, none⟩ = false := S12.ri.blk.free 3
    have y4 : w12.frozen? ⟨w.heap.size + 1 + 1, 4, none⟩ = false := S12.ri.blk.free 4
    have y5 : w12.frozen? ⟨w.heap.size + 1 + 1, 5, none⟩ = false := S12.ri.blk.free 5
    have y6 : w12.frozen? ⟨w.heap.size + 1 + 1, 6, none⟩ = false := S12.ri.blk.free 6
    have g3 : w12.cell? ⟨w.heap.size, 3, none⟩ = some (.slice a4 n4 p4) := S12.rf.blk.cell 3 rfl
    have HS := Lib.hid S12
    clear S12 l0
    rcases hor with rfl | ⟨j, sD, rfl, hj, -⟩
    · dsimp only
      go_wp2_with fail
      obtain ⟨g1, g2⟩ := foundF_fin HS.out
      rw [show (((((((w12.setCell ⟨w.heap.size + 1 + 1, 0, none⟩ (.string iv)).setCell ⟨w.heap.size + 1 + 1, 1, none⟩ (.string sT)).setCell ⟨w.heap.size + 1 + 1, 2, none⟩ (.string sL)).setCell ⟨w.heap.size + 1 + 1, 3, none⟩ (.string sA)).setCell ⟨w.heap.size + 1 + 1, 4, none⟩ (.string sC)).setCell ⟨w.heap.size + 1 + 1, 5, none⟩ (.string ⟨#[]⟩)).setCell ⟨w.heap.size + 1 + 1, 6, none⟩ (.int .i8 0)) = World.setItm w12 (w.heap.size + 1 + 1) (.string iv) (.string sT) (.string sL) (.string sA) (.string sC) (.string ⟨#[]⟩) (.int .i8 0) from rfl]
      refine bodyPost_ret (results_cell1 rfl _ _ _ _ _ rfl g1.blk Try.underlying47 rfl (by kernel_rfl)) rfl ⟨?_, g2⟩
      rw [HV.out]
      rfl
    · rw [HN4.out] at hj
      have d0 : decide ((j : Int) < 0) = false := decide_eq_false (by omega)
      by_cases hje : j + 1 = n4
      · have d1 : ((j : Int) == (n4 : Int) - 1) = true := beq_iff_eq.2 (by omega)
        have HS2 := Lib.hid (((HS.out.set (Y := ⟨iv, sT, sL, sA, sC, ⟨#[]⟩, 3⟩) 6 (.int .i8 3) rfl)).set (Y := ⟨iv, sT, sL, sA, sC, sD, 3⟩) 5 (.string sD) rfl)
        have HK := Lib.hid (show kindD (j : Int) n4 = 3 by unfold kindD; rw [if_neg (by omega), if_pos (by omega)])
        clear hje
        dsimp only
        go_wp2_with fail
        obtain ⟨g1, g2⟩ := foundF_fin HS2.out
        rw [show (((((((((w12.setCell ⟨w.heap.size + 1 + 1, 6, none⟩ (.int .i8 3)).setCell ⟨w.heap.size + 1 + 1, 5, none⟩ (.string sD)).setCell ⟨w.heap.size + 1 + 1, 0, none⟩ (.string iv)).setCell ⟨w.heap.size + 1 + 1, 1, none⟩ (.string sT)).setCell ⟨w.heap.size + 1 + 1, 2, none⟩ (.string sL)).setCell ⟨w.heap.size + 1 + 1, 3, none⟩ (.string sA)).setCell ⟨w.heap.size + 1 + 1, 4, none⟩ (.string sC)).setCell ⟨w.heap.size + 1 + 1, 5, none⟩ (.string sD)).setCell ⟨w.heap.size + 1 + 1, 6, none⟩ (.int .i8 3)) = World.setItm ((w12.setCell ⟨w.heap.size + 1 + 1, 6, none⟩ (.int .i8 3)).setCell ⟨w.heap.size + 1 + 1, 5, none⟩ (.string sD)) (w.heap.size + 1 + 1) (.string iv) (.string sT) (.string sL) (.string sA) (.string sC) (.string sD) (.int .i8 3) from rfl]
        refine bodyPost_ret (results_cell1 rfl _ _ _ _ _ rfl g1.blk Try.underlying47 rfl (by kernel_rfl)) rfl ⟨?_, g2⟩
        rw [HV.out, HK.out]
        rfl
      · have d1 : ((j : Int) == (n4 : Int) - 1) = false := beq_eq_false_iff_ne.2 (by omega)
        have HS2 := Lib.hid (((HS.out.set (Y := ⟨iv, sT, sL, sA, sC, ⟨#[]⟩, 1⟩) 6 (.int .i8 1) rfl)).set (Y := ⟨iv, sT, sL, sA, sC, sD, 1⟩) 5 (.string sD) rfl)
        have HK := Lib.hid (show kindD (j : Int) n4 = 1 by unfold kindD; rw [if_neg (by omega), if_neg (by omega)])
        clear hje
        dsimp only
        go_wp2_with fail
        obtain ⟨g1, g2⟩ := foundF_fin HS2.out
        rw [show (((((((((w12.setCell ⟨w.heap.size + 1 + 1, 6, none⟩ (.int .i8 1)).setCell ⟨w.heap.size + 1 + 1, 5, none⟩ (.string sD)).setCell ⟨w.heap.size + 1 + 1, 0, none⟩ (.string iv)).setCell ⟨w.heap.size + 1 + 1, 1, none⟩ (.string sT)).setCell ⟨w.heap.size + 1 + 1, 2, none⟩ (.string sL)).setCell ⟨w.heap.size + 1 + 1, 3, none⟩ (.string sA)).setCell ⟨w.heap.size + 1 + 1, 4, none⟩ (.string sC)).setCell ⟨w.heap.size + 1 + 1, 5, none⟩ (.string sD)).setCell ⟨w.heap.size + 1 + 1, 6, none⟩ (.int .i8 1)) = World.setItm ((w12.setCell ⟨w.heap.size + 1 + 1, 6, none⟩ (.int .i8 1)).setCell ⟨w.heap.size + 1 + 1, 5, none⟩ (.string sD)) (w.heap.size + 1 + 1) (.string iv) (.string sT) (.string sL) (.string sA) (.string sC) (.string sD) (.int .i8 1) from rfl]
        refine bodyPost_ret (results_cell1 rfl _ _ _ _ _ rfl g1.blk Try.underlying47 rfl (by kernel_rfl)) rfl ⟨?_, g2⟩
        rw [HV.out, HK.out]
        rfl
  | true =>
    cases R with
    | none =>
      have e1 : (none : Option ByteArray).isSome = false := rfl
      have e2 : (none : Option ByteArray).getD ⟨#[]⟩ = ⟨#[]⟩ := rfl
      rw [e1, e2]
      obtain ⟨iv, hiv⟩ : ∃ x, x = sI := ⟨_, rfl⟩
      have HV := Lib.hid (show idF true none sI = iv by rw [hiv]; rfl)
      rw [← hiv] at S10
      clear hiv
      go_wp2_with fail
      have S11 : FoS (.slice a es.length cap) (.slice a1 n1 p1) (.slice a2 n2 p2) (.slice a3 n3 p3) (.slice a4 n4 p4) true w ⟨iv, sT, sL, sA, sC, ⟨#[]⟩, 0⟩ _ := S10
      refine (rss_Field B es _ F.date _ _ (FE.out _ S11.b) (N4.out _ S11.b) (by have := h4'.out; omega)).mono ?_
      rintro r w12 ⟨rfl, hb12⟩
      have S12 := S11.up hb12
      clear S11 hb12
      rw [HDP.out]
      have hor := fieldP_or es F.date
      rw [HDP.out] at hor
      have x0 : w12.cell? ⟨w.heap.size + 1 + 1, 0, none⟩ = some (.string iv) := S12.ri.blk.cell 0 rfl
      have x1 : w12.cell? ⟨w.heap.size + 1 + 1, 1, none⟩ = some (.string sT) := S12.ri.blk.cell 1 rfl
      have x2 : w12.cell? ⟨w.heap.size + 1 + 1, 2, none⟩ = some (.string sL) := S12.ri.blk.cell 2 rfl
      have x3 : w12.cell? ⟨w.heap.size + 1 + 1, 3, none⟩ = some (.string sA) := S12.ri.blk.cell 3 rfl
      have x4 : w12.cell? ⟨w.heap.size + 1 + 1, 4, none⟩ = some (.string sC) := S12.ri.blk.cell 4 rfl
      have x5 : w12.cell? ⟨w.heap.size + 1 + 1, 5, none⟩ = some (.string ⟨#[]⟩) := S12.ri.blk.cell 5 rfl
      have x6 : w12.cell? ⟨w.heap.size + 1 + 1, 6, none⟩ = some (.int .i8 0) := S12.ri.blk.cell 6 rfl
      have y0 : w12.frozen? ⟨w.heap.size + 1 + 1, 0, none⟩ = false := S12.ri.blk.free 0
      have y1 : w12.frozen? ⟨w.heap.size + 1 + 1, 1, none⟩ = false := S12.ri.blk.free 1
      have y2 : w12.frozen? ⟨w.heap.size + 1 + 1, 2, none⟩ = false := S12.ri.blk.free 2
      have y3 : w12.frozen? ⟨w.heap.size + 1 + 1, 3, none⟩ = false := S12.ri.blk.free 3
      have y4 : w12.frozen? ⟨w.heap.size + 1 + 1, 4, none⟩ = false := S12.ri.blk.free 4
      have y5 : w12.frozen? ⟨w.heap.size + 1 + 1, 5, none⟩ = false := S12.ri.blk.free 5
      have y6 : w12.frozen? ⟨w.heap.size + 1 + 1, 6, none⟩ = false := S12.ri.blk.free 6
      have g3 : w12.cell? ⟨w.heap.size, 3, none⟩ = some (.slice a4 n4 p4) := S12.rf.blk.cell 3 rfl
      have HS := Lib.hid S12
      clear S12 l0
      rcases hor with rfl | ⟨j, sD, rfl, hj, -⟩
      · dsimp only
        go_wp2_with fail
        obtain ⟨g1, g2⟩ := foundF_fin HS.out
        rw [show (((((((w12.setCell ⟨w.heap.size + 1 + 1, 0, none⟩ (.string iv)).setCell ⟨w.heap.size + 1 + 1, 1, none⟩ (.string sT)).setCell ⟨w.heap.size + 1 + 1, 2, none⟩ (.string sL)).setCell ⟨w.heap.size + 1 + 1, 3, none⟩ (.string sA)).setCell ⟨w.heap.size + 1 + 1, 4, none⟩ (.string sC)).setCell ⟨w.heap.size + 1 + 1, 5, none⟩ (.string ⟨#[]⟩)).setCell ⟨w.heap.size + 1 + 1, 6, none⟩ (.int .i8 0)) = World.setItm w12 (w.heap.size + 1 + 1) (.string iv) (.string sT) (.string sL) (.string sA) (.string sC) (.string ⟨#[]⟩) (.int .i8 0) from rfl]
        refine bodyPost_ret (results_cell1 rfl _ _ _ _ _ rfl g1.blk Try.underlying47 rfl (by kernel_rfl)) rfl ⟨?_, g2⟩
        rw [HV.out]
        rfl
      · rw [HN4.out] at hj
        have d0 : decide ((j : Int) < 0) = false := decide_eq_false (by omega)
        by_cases hje : j + 1 = n4
        · have d1 : ((j : Int) == (n4 : Int) - 1) = true := beq_iff_eq.2 (by omega)
          have HS2 := Lib.hid (((HS.out.set (Y := ⟨iv, sT, sL, sA, sC, ⟨#[]⟩, 3⟩) 6 (.int .i8 3) rfl)).set (Y := ⟨iv, sT, sL, sA, sC, sD, 3⟩) 5 (.string sD) rfl)
          have HK := Lib.hid (show kindD (j : Int) n4 = 3 by unfold kindD; rw [if_neg (by omega), if_pos (by omega)])
          clear hje
          dsimp only
          go_wp2_with fail
          obtain ⟨g1, g2⟩ := foundF_fin HS2.out
          rw [show (((((((((w12.setCell ⟨w.heap.size + 1 + 1, 6, none⟩ (.int .i8 3)).setCell ⟨w.heap.size + 1 + 1, 5, none⟩ (.string sD)).setCell ⟨w.heap.size + 1 + 1, 0, none⟩ (.string iv)).setCell ⟨w.heap.size + 1 + 1, 1, none⟩ (.string sT)).setCell ⟨w.heap.size + 1 + 1, 2, none⟩ (.string sL)).setCell ⟨w.heap.size + 1 + 1, 3, none⟩ (.string sA)).setCell ⟨w.heap.size + 1 + 1, 4, none⟩ (.string sC)).setCell ⟨w.heap.size + 1 + 1, 5, none⟩ (.string sD)).setCell ⟨w.heap.size + 1 + 1, 6, none⟩ (.int .i8 3)) = World.setItm ((w12.setCell ⟨w.heap.size + 1 + 1, 6, none⟩ (.int .i8 3)).setCell ⟨w.heap.size + 1 + 1, 5, none⟩ (.string sD)) (w.heap.size + 1 + 1) (.string iv) (.string sT) (.string sL) (.string sA) (.string sC) (.string sD) (.int .i8 3) from rfl]
          refine bodyPost_ret (results_cell1 rfl _ _ _ _ _ rfl g1.blk Try.underlying47 rfl (by kernel_rfl)) rfl ⟨?_, g2⟩
          rw [HV.out, HK.out]
          rfl
        · have d1 : ((j : Int) == (n4 : Int) - 1) = false := beq_eq_false_iff_ne.2 (by omega)
          have HS2 := Lib.hid (((HS.out.set (Y := ⟨iv, sT, sL, sA, sC, ⟨#[]⟩, 1⟩) 6 (.int .i8 1) rfl)).set (Y := ⟨iv, sT, sL, sA, sC, sD, 1⟩) 5 (.string sD) rfl)
          have HK := Lib.hid (show kindD (j : Int) n4 = 1 by unfold kindD; rw [if_neg (by omega), if_neg (by omega)])
          clear hje
          dsimp only
          go_wp2_with fail
          obtain ⟨g1, g2⟩ := foundF_fin HS2.out
          rw [show (((((((((w12.setCell ⟨w.heap.size + 1 + 1, 6, none⟩ (.int .i8 1)).setCell ⟨w.heap.size + 1 + 1, 5, none⟩ (.string sD)).setCell ⟨w.heap.size + 1 + 1, 0, none⟩ (.string iv)).setCell ⟨w.heap.size + 1 + 1, 1, none⟩ (.string sT)).setCell ⟨w.heap.size + 1 + 1, 2, none⟩ (.string sL)).setCell ⟨w.heap.size + 1 + 1, 3, none⟩ (.string sA)).setCell ⟨w.heap.size + 1 + 1, 4, none⟩ (.string sC)).setCell ⟨w.heap.size + 1 + 1, 5, none⟩ (.string sD)).setCell ⟨w.heap.size + 1 + 1, 6, none⟩ (.int .i8 1)) = World.setItm ((w12.setCell ⟨w.heap.size + 1 + 1, 6, none⟩ (.int .i8 1)).setCell ⟨w.heap.size + 1 + 1, 5, none⟩ (.string sD)) (w.heap.size + 1 + 1) (.string iv) (.string sT) (.string sL) (.string sA) (.string sC) (.string sD) (.int .i8 1) from rfl]
          refine bodyPost_ret (results_cell1 rfl _ _ _ _ _ rfl g1.blk Try.underlying47 rfl (by kernel_rfl)) rfl ⟨?_, g2⟩
          rw [HV.out, HK.out]
          rfl
    | some s =>
      have e1 : (some s : Option ByteArray).isSome = true := rfl
      have e2 : (some s : Option ByteArray).getD ⟨#[]⟩ = s := rfl
      rw [e1, e2]
      have hsz := hRs s rfl
      cases hbl : blankN (nums s) with
      | true =>
        obtain ⟨iv, hiv⟩ : ∃ x, x = sI := ⟨_, rfl⟩
        have HV := Lib.hid (show idF true (some s) sI = iv by rw [hiv]; unfold idF; rw [if_pos rfl]; simp only; rw [if_pos hbl])
        rw [← hiv] at S10
        clear hiv
        go_wp2_with fail
        refine (chars_Blank s w10 hsz).mono ?_
        rintro r w11 ⟨rfl, hb11⟩
        have S11 := S10.up hb11
        clear S10 hb11 g3 g4 l0
        have g3 : w11.cell? ⟨w.heap.size, 3, none⟩ = some (.slice a4 n4 p4) := S11.rf.blk.cell 3 rfl
        have l0 : w11.cell? ⟨w.heap.size + 1, 0, none⟩ = some (.slice a es.length cap) := S11.bl.cell
        rw [hbl]
        go_wp2_with fail
        refine (rss_Field B es _ F.date _ _ (FE.out _ S11.b) (N4.out _ S11.b) (by have := h4'.out; omega)).mono ?_
        rintro r w12 ⟨rfl, hb12⟩
        have S12 := S11.up hb12
        clear S11 hb12
        rw [HDP.out]
        have hor := fieldP_or es F.date
        rw [HDP.out] at hor
        have x0 : w12.cell? ⟨w.heap.size + 1 + 1, 0, none⟩ = some (.string iv) := S12.ri.blk.cell 0 rfl
        have x1 : w12.cell? ⟨w.heap.size + 1 + 1, 1, none⟩ = some (.string sT) := S12.ri.blk.cell 1 rfl
        have x2 : w12.cell? ⟨w.heap.size + 1 + 1, 2, none⟩ = some (.string sL) := S12.ri.blk.cell 2 rfl
        have x3 : w12.cell? ⟨w.heap.size + 1 + 1, 3, none⟩ = some (.string sA) := S12.ri.blk.cell 3 rfl
        have x4 : w12.cell? ⟨w.heap.size + 1 + 1, 4, none⟩ = some (.string sC) := S12.ri.blk.cell 4 rfl
        have x5 : w12.cell? ⟨w.heap.size + 1 + 1, 5, none⟩ = some (.string ⟨#[]⟩) := S12.ri.blk.cell 5 rfl
        have x6 : w12.cell? ⟨w.heap.size + 1 + 1, 6, none⟩ = some (.int .i8 0) := S12.ri.blk.cell 6 rfl
        have y0 : w12.frozen? ⟨w.heap.size + 1 + 1, 0, none⟩ = false := S12.ri.blk.free 0
        have y1 : w12.frozen? ⟨w.heap.size + 1 + 1, 1, none⟩ = false := S12.ri.blk.free 1
        have y2 : w12.frozen? ⟨w.heap.size + 1 + 1, 2, none⟩ = false := S12.ri.blk.free 2
        have y3 : w12.frozen? ⟨w.heap.size + 1 + 1, 3, none⟩ = false := S12.ri.blk.free 3
        have y4 : w12.frozen? ⟨w.heap.size + 1 + 1, 4, none⟩ = false := S12.ri.blk.free 4
        have y5 : w12.frozen? ⟨w.heap.size + 1 + 1, 5, none⟩ = false := S12.ri.blk.free 5
        have y6 : w12.frozen? ⟨w.heap.size + 1 + 1, 6, none⟩ = false := S12.ri.blk.free 6
        have g3 : w12.cell? ⟨w.heap.size, 3, none⟩ = some (.slice a4 n4 p4) := S12.rf.blk.cell 3 rfl
        have HS := Lib.hid S12
        clear S12 l0
        rcases hor with rfl | ⟨j, sD, rfl, hj, -⟩
        · dsimp only
          go_wp2_with fail
          obtain ⟨g1, g2⟩ := foundF_fin HS.out
          rw [show (((((((w12.setCell ⟨w.heap.size + 1 + 1, 0, none⟩ (.string iv)).setCell ⟨w.heap.size + 1 + 1, 1, none⟩ (.string sT)).setCell ⟨w.heap.size + 1 + 1, 2, none⟩ (.string sL)).setCell ⟨w.heap.size + 1 + 1, 3, none⟩ (.string sA)).setCell ⟨w.heap.size + 1 + 1, 4, none⟩ (.string sC)).setCell ⟨w.heap.size + 1 + 1, 5, none⟩ (.string ⟨#[]⟩)).setCell ⟨w.heap.size + 1 + 1, 6, none⟩ (.int .i8 0)) = World.setItm w12 (w.heap.size + 1 + 1) (.string iv) (.string sT) (.string sL) (.string sA) (.string sC) (.string ⟨#[]⟩) (.int .i8 0) from rfl]
          refine bodyPost_ret (results_cell1 rfl _ _ _ _ _ rfl g1.blk Try.underlying47 rfl (by kernel_rfl)) rfl ⟨?_, g2⟩
          rw [HV.out]
          rfl
        · rw [HN4.out] at hj
          have d0 : decide ((j : Int) < 0) = false := decide_eq_false (by omega)
          by_cases hje : j + 1 = n4
          · have d1 : ((j : Int) == (n4 : Int) - 1) = true := beq_iff_eq.2 (by omega)
            have HS2 := Lib.hid (((HS.out.set (Y := ⟨iv, sT, sL, sA, sC, ⟨#[]⟩, 3⟩) 6 (.int .i8 3) rfl)).set (Y := ⟨iv, sT, sL, sA, sC, sD, 3⟩) 5 (.string sD) rfl)
            have HK := Lib.hid (show kindD (j : Int) n4 = 3 by unfold kindD; rw [if_neg (by omega), if_pos (by omega)])
            clear hje
            dsimp only
            go_wp2_with fail
            obtain ⟨g1, g2⟩ := foundF_fin HS2.out
            rw [show (((((((((w12.setCell ⟨w.heap.size + 1 + 1, 6, none⟩ (.int .i8 3)).setCell ⟨w.heap.size + 1 + 1, 5, none⟩ (.string sD)).setCell ⟨w.heap.size + 1 + 1, 0, none⟩ (.string iv)).setCell ⟨w.heap.size + 1 + 1, 1, none⟩ (.string sT)).setCell ⟨w.heap.size + 1 + 1, 2, none⟩ (.string sL)).setCell ⟨w.heap.size + 1 + 1, 3, none⟩ (.string sA)).setCell ⟨w.heap.size + 1 + 1, 4, none⟩ (.string sC)).setCell ⟨w.heap.size + 1 + 1, 5, none⟩ (.string sD)).setCell ⟨w.heap.size + 1 + 1, 6, none⟩ (.int .i8 3)) = World.setItm ((w12.setCell ⟨w.heap.size + 1 + 1, 6, none⟩ (.int .i8 3)).setCell ⟨w.heap.size + 1 + 1, 5, none⟩ (.string sD)) (w.heap.size + 1 + 1) (.string iv) (.string sT) (.string sL) (.string sA) (.string sC) (.string sD) (.int .i8 3) from rfl]
            refine bodyPost_ret (results_cell1 rfl _ _ _ _ _ rfl g1.blk Try.underlying47 rfl (by kernel_rfl)) rfl ⟨?_, g2⟩
            rw [HV.out, HK.out]
            rfl
          · have d1 : ((j : Int) == (n4 : Int) - 1) = false := beq_eq_false_iff_ne.2 (by omega)
            have HS2 := Lib.hid (((HS.out.set (Y := ⟨iv, sT, sL, sA, sC, ⟨#[]⟩, 1⟩) 6 (.int .i8 1) rfl)).set (Y := ⟨iv, sT, sL, sA, sC, sD, 1⟩) 5 (.string sD) rfl)
            have HK := Lib.hid (show kindD (j : Int) n4 = 1 by unfold kindD; rw [if_neg (by omega), if_neg (by omega)])
            clear hje
            dsimp only
            go_wp2_with fail
            obtain ⟨g1, g2⟩ := foundF_fin HS2.out
            rw [show (((((((((w12.setCell ⟨w.heap.size + 1 + 1, 6, none⟩ (.int .i8 1)).setCell ⟨w.heap.size + 1 + 1, 5, none⟩ (.string sD)).setCell ⟨w.heap.size + 1 + 1, 0, none⟩ (.string iv)).setCell ⟨w.heap.size + 1 + 1, 1, none⟩ (.string sT)).setCell ⟨w.heap.size + 1 + 1, 2, none⟩ (.string sL)).setCell ⟨w.heap.size + 1 + 1, 3, none⟩ (.string sA)).setCell ⟨w.heap.size + 1 + 1, 4, none⟩ (.string sC)).setCell ⟨w.heap.size + 1 + 1, 5, none⟩ (.string sD)).setCell ⟨w.heap.size + 1 + 1, 6, none⟩ (.int .i8 1)) = World.setItm ((w12.setCell ⟨w.heap.size + 1 + 1, 6, none⟩ (.int .i8 1)).setCell ⟨w.heap.size + 1 + 1, 5, none⟩ (.string sD)) (w.heap.size + 1 + 1) (.string iv) (.string sT) (.string sL) (.string sA) (.string sC) (.string sD) (.int .i8 1) from rfl]
            refine bodyPost_ret (results_cell1 rfl _ _ _ _ _ rfl g1.blk Try.underlying47 rfl (by kernel_rfl)) rfl ⟨?_, g2⟩
            rw [HV.out, HK.out]
            rfl
      | false =>
        obtain ⟨iv, hiv⟩ : ∃ x, x = s := ⟨_, rfl⟩
        have HV := Lib.hid (show idF true (some s) sI = iv by rw [hiv]; unfold idF; rw [if_pos rfl]; simp only; rw [if_neg (by rw [hbl]; decide)])
        go_wp2_with fail
        refine (chars_Blank s w10 hsz).mono ?_
        rintro r w11 ⟨rfl, hb11⟩
        have S11 := S10.up hb11
        clear S10 hb11 g3 g4 l0
        have x0 : w11.cell? ⟨w.heap.size + 1 + 1, 0, none⟩ = some (.string sI) := S11.ri.blk.cell 0 rfl
        have y0 : w11.frozen? ⟨w.heap.size + 1 + 1, 0, none⟩ = false := S11.ri.blk.free 0
        replace S11 := S11.set (Y := ⟨s, sT, sL, sA, sC, ⟨#[]⟩, 0⟩) 0 (.string s) rfl
        have g3 : (w11.setCell ⟨w.heap.size + 1 + 1, 0, none⟩ (.string s)).cell? ⟨w.heap.size, 3, none⟩ = some (.slice a4 n4 p4) := S11.rf.blk.cell 3 rfl
        have l0 : (w11.setCell ⟨w.heap.size + 1 + 1, 0, none⟩ (.string s)).cell? ⟨w.heap.size + 1, 0, none⟩ = some (.slice a es.length cap) := S11.bl.cell
        rw [hbl]
        go_wp2_with fail
        clear x0 y0
        subst hiv
        refine (rss_Field B es _ F.date _ _ (FE.out _ S11.b) (N4.out _ S11.b) (by have := h4'.out; omega)).mono ?_
        rintro r w12 ⟨rfl, hb12⟩
        have S12 := S11.up hb12
        clear S11 hb12
        rw [HDP.out]
        have hor := fieldP_or es F.date
        rw [HDP.out] at hor
        have x0 : w12.cell? ⟨w.heap.size + 1 + 1, 0, none⟩ = some (.string iv) := S12.ri.blk.cell 0 rfl
        have x1 : w12.cell? ⟨w.heap.size + 1 + 1, 1, none⟩ = some (.string sT) := S12.ri.blk.cell 1 rfl
        have x2 : w12.cell? ⟨w.heap.size + 1 + 1, 2, none⟩ = some (.string sL) := S12.ri.blk.cell 2 rfl
        have x3 : w12.cell? ⟨w.heap.size + 1 + 1, 3, none⟩ = some (.string sA) := S12.ri.blk.cell 3 rfl
        have x4 : w12.cell? ⟨w.heap.size + 1 + 1, 4, none⟩ = some (.string sC) := S12.ri.blk.cell 4 rfl
        have x5 : w12.cell? ⟨w.heap.size + 1 + 1, 5, none⟩ = some (.string ⟨#[]⟩) := S12.ri.blk.cell 5 rfl
        have x6 : w12.cell? ⟨w.heap.size + 1 + 1, 6, none⟩ = some (.int .i8 0) := S12.ri.blk.cell 6 rfl
        have y0 : w12.frozen? ⟨w.heap.size + 1 + 1, 0, none⟩ = false := S12.ri.blk.free 0
        have y1 : w12.frozen? ⟨w.heap.size + 1 + 1, 1, none⟩ = false := S12.ri.blk.free 1
        have y2 : w12.frozen? ⟨w.heap.size + 1 + 1, 2, none⟩ = false := S12.ri.blk.free 2
        have y3 : w12.frozen? ⟨w.heap.size + 1 + 1, 3, none⟩ = false := S12.ri.blk.free 3
        have y4 : w12.frozen? ⟨w.heap.size + 1 + 1, 4, none⟩ = false := S12.ri.blk.free 4
        have y5 : w12.frozen? ⟨w.heap.size + 1 + 1, 5, none⟩ = false := S12.ri.blk.free 5
        have y6 : w12.frozen? ⟨w.heap.size + 1 + 1, 6, none⟩ = false := S12.ri.blk.free 6
        have g3 : w12.cell? ⟨w.heap.size, 3, none⟩ = some (.slice a4 n4 p4) := S12.rf.blk.cell 3 rfl
        have HS := Lib.hid S12
        clear S12 l0
        rcases hor with rfl | ⟨j, sD, rfl, hj, -⟩
        · dsimp only
          go_wp2_with fail
          obtain ⟨g1, g2⟩ := foundF_fin HS.out
          rw [show (((((((w12.setCell ⟨w.heap.size + 1 + 1, 0, none⟩ (.string iv)).setCell ⟨w.heap.size + 1 + 1, 1, none⟩ (.string sT)).setCell ⟨w.heap.size + 1 + 1, 2, none⟩ (.string sL)).setCell ⟨w.heap.size + 1 + 1, 3, none⟩ (.string sA)).setCell ⟨w.heap.size + 1 + 1, 4, none⟩ (.string sC)).setCell ⟨w.heap.size + 1 + 1, 5, none⟩ (.string ⟨#[]⟩)).setCell ⟨w.heap.size + 1 + 1, 6, none⟩ (.int .i8 0)) = World.setItm w12 (w.heap.size + 1 + 1) (.string iv) (.string sT) (.string sL) (.string sA) (.string sC) (.string ⟨#[]⟩) (.int .i8 0) from rfl]
          refine bodyPost_ret (results_cell1 rfl _ _ _ _ _ rfl g1.blk Try.underlying47 rfl (by kernel_rfl)) rfl ⟨?_, g2⟩
          rw [HV.out]
          rfl
        · rw [HN4.out] at hj
          have d0 : decide ((j : Int) < 0) = false := decide_eq_false (by omega)
          by_cases hje : j + 1 = n4
          · have d1 : ((j : Int) == (n4 : Int) - 1) = true := beq_iff_eq.2 (by omega)
            have HS2 := Lib.hid (((HS.out.set (Y := ⟨iv, sT, sL, sA, sC, ⟨#[]⟩, 3⟩) 6 (.int .i8 3) rfl)).set (Y := ⟨iv, sT, sL, sA, sC, sD, 3⟩) 5 (.string sD) rfl)
            have HK := Lib.hid (show kindD (j : Int) n4 = 3 by unfold kindD; rw [if_neg (by omega), if_pos (by omega)])
            clear hje
            dsimp only
            go_wp2_with fail
            obtain ⟨g1, g2⟩ := foundF_fin HS2.out
            rw [show (((((((((w12.setCell ⟨w.heap.size + 1 + 1, 6, none⟩ (.int .i8 3)).setCell ⟨w.heap.size + 1 + 1, 5, none⟩ (.string sD)).setCell ⟨w.heap.size + 1 + 1, 0, none⟩ (.string iv)).setCell ⟨w.heap.size + 1 + 1, 1, none⟩ (.string sT)).setCell ⟨w.heap.size + 1 + 1, 2, none⟩ (.string sL)).setCell ⟨w.heap.size + 1 + 1, 3, none⟩ (.string sA)).setCell ⟨w.heap.size + 1 + 1, 4, none⟩ (.string sC)).setCell ⟨w.heap.size + 1 + 1, 5, none⟩ (.string sD)).setCell ⟨w.heap.size + 1 + 1, 6, none⟩ (.int .i8 3)) = World.setItm ((w12.setCell ⟨w.heap.size + 1 + 1, 6, none⟩ (.int .i8 3)).setCell ⟨w.heap.size + 1 + 1, 5, none⟩ (.string sD)) (w.heap.size + 1 + 1) (.string iv) (.string sT) (.string sL) (.string sA) (.string sC) (.string sD) (.int .i8 3) from rfl]
            refine bodyPost_ret (results_cell1 rfl _ _ _ _ _ rfl g1.blk Try.underlying47 rfl (by kernel_rfl)) rfl ⟨?_, g2⟩
            rw [HV.out, HK.out]
            rfl
          · have d1 : ((j : Int) == (n4 : Int) - 1) = false := beq_eq_false_iff_ne.2 (by omega)
            have HS2 := Lib.hid (((HS.out.set (Y := ⟨iv, sT, sL, sA, sC, ⟨#[]⟩, 1⟩) 6 (.int .i8 1) rfl)).set (Y := ⟨iv, sT, sL, sA, sC, sD, 1⟩) 5 (.string sD) rfl)
            have HK := Lib.hid (show kindD (j : Int) n4 = 1 by unfold kindD; rw [if_neg (by omega), if_neg (by omega)])
            clear hje
            dsimp only
            go_wp2_with fail
            obtain ⟨g1, g2⟩ := foundF_fin HS2.out
            rw [show (((((((((w12.setCell ⟨w.heap.size + 1 + 1, 6, none⟩ (.int .i8 1)).setCell ⟨w.heap.size + 1 + 1, 5, none⟩ (.string sD)).setCell ⟨w.heap.size + 1 + 1, 0, none⟩ (.string iv)).setCell ⟨w.heap.size + 1 + 1, 1, none⟩ (.string sT)).setCell ⟨w.heap.size + 1 + 1, 2, none⟩ (.string sL)).setCell ⟨w.heap.size + 1 + 1, 3, none⟩ (.string sA)).setCell ⟨w.heap.size + 1 + 1, 4, none⟩ (.string sC)).setCell ⟨w.heap.size + 1 + 1, 5, none⟩ (.string sD)).setCell ⟨w.heap.size + 1 + 1, 6, none⟩ (.int .i8 1)) = World.setItm ((w12.setCell ⟨w.heap.size + 1 + 1, 6, none⟩ (.int .i8 1)).setCell ⟨w.heap.size + 1 + 1, 5, none⟩ (.string sD)) (w.heap.size + 1 + 1) (.string iv) (.string sT) (.string sL) (.string sA) (.string sC) (.string sD) (.int .i8 1) from rfl]
            refine bodyPost_ret (results_cell1 rfl _ _ _ _ _ rfl g1.blk Try.underlying47 rfl (by kernel_rfl)) rfl ⟨?_, g2⟩
            rw [HV.out, HK.out]
            rfl
end Go.Proofs.Yteefopeclfojiaa
/- 
  Layer 23: an element's events by themselves, in terms of a tree; what lasts within Parse.
 -/
namespace Go.Proofs.Yteefopeclfojiaa
open Go.RowKit
theorem Both.mem {α β : Type} {R : α → β → Prop} {l : List α} {m : List β} (h : Both R l m) : ∀ {a : α}, a ∈ l → ∃ b, b ∈ m ∧ R a b := by
  induction h with
  | nil => intro a h; cases h
  | cons hr _ ih =>
    intro a h
    rcases List.mem_cons.1 h with rfl | h
    · exact ⟨_, List.mem_cons_self .., hr⟩
    · obtain ⟨b, h1, h2⟩ := ih h
      exact ⟨b, List.mem_cons_of_mem _ h1, h2⟩
section
variable {es : List Evt} {g : Gr} {p : Nat} {T : KidT}
theorem kid_on (hG : growP es = some g) (h : OnT es (endO g) p T) {x : Nat} (hx : x ∈ kidsP es p) : ∃ U, U ∈ T.2.2.kids ∧ OnT es (endO g) x U := by
  rw [h.kids hG] at hx
  exact h.both.mem hx
theorem OnT.endv (hG : growP es = some g) (h : OnT es (endO g) p T) : atP es p = some g ∧ endV g p = .int .i64 (p + 1 + T.2.2.sz : Nat) ∧ p + 1 + T.2.2.sz < es.length := by
  have hA := atP_of hG h.en
  obtain ⟨q, j, h1, h2, h3, h4, h5⟩ := atP_end hA
  have hq : q = p := by omega
  subst hq
  have he : endO g q = some j := by unfold endO; rw [h3]; rfl
  rw [h.en] at he
  injection he with he
  exact ⟨hA, by rw [h2, he], by omega⟩
theorem OnT.part (hG : growP es = some g) (h : OnT es (endO g) p T) : partP es p = flT T := by
  unfold partP
  rw [hG, Option.bind_some, h.en]
  simp only
  rw [show p + 1 + T.2.2.sz + 1 - p = T.2.2.sz + 2 by omega, h.ev]
  rfl
theorem flT_len (T : KidT) : (flT T).length = T.2.2.sz + 2 := by unfold flT; simp [fl_len]
theorem flT_sub (h : OnT es (endO g) p T) : (es.drop p).take (T.2.2.sz + 2) = flT T := h.ev
theorem REv.part {B : Nat} {b off n cap : Nat} {w : World} (hE : REv B es (.slice (some ⟨b, off, none⟩) n cap) w) (hG : growP es = some g) (h : OnT es (endO g) p T) : REv B (flT T) (.slice (some ⟨b, off + p * 5, none⟩) (T.2.2.sz + 2) (cap - p)) w := by
  obtain ⟨-, -, h3⟩ := h.endv hG
  have hs := h.ev
  have hmem : ∀ e ∈ flT T, e ∈ es := fun e he => by
    rw [← flT_sub h] at he
    exact List.mem_of_mem_drop (List.mem_of_mem_take he)
  have htx : (txsL (flT T)).length ≤ (txsL es).length := by
    rw [← flT_sub h]
    refine Nat.le_trans (txsL_le _ _) ?_
    have h2 : txsL es = txsL (es.take p) ++ txsL (es.drop p) := by rw [← txsL_append, List.take_append_drop]
    rw [h2, List.length_append]
    omega
  obtain ⟨a', c', hc1, hc2, hc3⟩ := hE.f.c
  cases hc1
  have hr := hE.f.r.sub p (T.2.2.sz + 2) (cap - p) (by omega)
  rw [flT_sub h] at hr
  refine ⟨⟨hr, hE.f.hB, ?_, fun e he => hE.f.z e (hmem e he), Nat.lt_of_le_of_lt htx hE.f.t, ⟨_, _, by rw [flT_len], by rw [flT_len]; omega, by omega⟩⟩, Nat.le_trans htx hE.t, fun e he => hE.a e (hmem e he)⟩
  rw [flT_len]
  have := hE.f.n
  omega
end
theorem rss_partT {es : List Evt} {g : Gr} {p : Nat} {T : KidT} {B : Nat} {b off n cap : Nat} {w : World} (hE : REv B es (.slice (some ⟨b, off, none⟩) n cap) w) (hG : growP es = some g) (h : OnT es (endO g) p T) :
    Calls Try.prog 85 #[.slice (some ⟨b, off, none⟩) n cap, .int .i64 p] w fun r w' => r = .returned (.slice (some ⟨b, off + p * 5, none⟩) (T.2.2.sz + 2) (cap - p)) ∧ Below w.heap.size w w' := by
  obtain ⟨h1, h2, h3⟩ := h.endv hG
  obtain ⟨a', c', hc1, hc2, hc3⟩ := hE.f.c
  cases hc1
  have h4 := rss_part B es b off cap p (p + 1 + T.2.2.sz) g w hE.f.r hE.f.hB hE.f.n hE.f.z2 h1 h2 (by omega) h3 hc2 hc3
  rw [show p + 1 + T.2.2.sz + 1 - p = T.2.2.sz + 2 by omega] at h4
  exact h4
theorem ref23_partT {es : List Evt} {g : Gr} {p : Nat} {T : KidT} {B : Nat} {b off n cap : Nat} {w : World} (hE : REv B es (.slice (some ⟨b, off, none⟩) n cap) w) (hG : growP es = some g) (h : OnT es (endO g) p T) :
    Calls Try.prog 90 #[.slice (some ⟨b, off, none⟩) n cap, .int .i64 p] w fun r w' => r = .returned (.slice (some ⟨b, off + p * 5, none⟩) (T.2.2.sz + 2) (cap - p)) ∧ Below w.heap.size w w' := by
  obtain ⟨h1, h2, h3⟩ := h.endv hG
  obtain ⟨a', c', hc1, hc2, hc3⟩ := hE.f.c
  cases hc1
  have h4 := ref23_part B es b off cap p (p + 1 + T.2.2.sz) g w hE.f.r hE.f.hB hE.f.n hE.f.z2 h1 h2 (by omega) h3 hc2 hc3
  rw [show p + 1 + T.2.2.sz + 1 - p = T.2.2.sz + 2 by omega] at h4
  exact h4
theorem RowAt.turnC {W W' : World} {B b : Nat} {T : TypeId} {cs : Array Value} (h : RowAt W b T cs) (ht : Turns NoMu B W W') : RowAt W' b T cs := by
  obtain ⟨row, hg, hrow⟩ := ht
  refine (hg.block b h.lt fun e => ?_).trans h
  obtain ⟨_, o, ho, hc⟩ := hrow b e.symm
  rw [show W.heap[b]? = _ from h] at ho
  cases ho
  rcases hc with hc | hc
  · cases hc
  · exact hc
theorem FormAt.below {w w' : World} {fv : Value} {F : FormT} {base : Nat} (h : FormAt w fv F base) (hb : Below w.heap.size w w') : FormAt w' fv F base := by
  obtain ⟨a1, c1, a2, c2, a3, c3, a4, c4, h0, h1, h2, h3, h4⟩ := h.at_
  exact ⟨a1, c1, a2, c2, a3, c3, a4, c4, h0, h1.below hb, h2.below hb, h3.below hb, h4.below hb⟩
/-- where items are looked for: a row of places behind a box. -/
def FrAt (W : World) (lo fx : Nat) (L : List Nat) : Prop := ∃ fb, Boxed W fx 31 (.slice (some ⟨fb, 0, none⟩) L.length L.length) ∧ RowAt W fb 3 (L.map fun i : Nat => Value.int .i64 (i : Int)).toArray ∧ lo ≤ fb
theorem FrAt.up {W W' : World} {lo fx : Nat} {L : List Nat} (h : FrAt W lo fx L) (hb : Below W.heap.size W W') : FrAt W' lo fx L := by
  obtain ⟨fb, h1, h2, h3⟩ := h
  exact ⟨fb, (hb.block _ h1.lt).trans h1, h2.below hb h2.lt, h3⟩
theorem FrAt.turn {W W' : World} {lo fx B : Nat} {L : List Nat} (h : FrAt W lo fx L) (ht : Turns NoMu B W W') : FrAt W' lo fx L := by
  obtain ⟨fb, h1, h2, h3⟩ := h
  exact ⟨fb, RowAt.turnC h1 ht, h2.turnC ht, h3⟩
theorem FrAt.other {W W' : World} {lo fx : Nat} {L : List Nat} (h : FrAt W lo fx L) (hk : ∀ b, lo ≤ b → ∀ T cs, RowAt W b T cs → RowAt W' b T cs) (hx : lo ≤ fx) : FrAt W' lo fx L := by
  obtain ⟨fb, h1, h2, h3⟩ := h
  exact ⟨fb, hk _ hx _ _ h1, hk _ h3 _ _ h2, h3⟩
/-- what lasts within Parse: the events' box, the raw feed's. -/
structure PaJ (w : World) (V : Value) (R : RawT) (W : World) : Prop where
  bl : Boxed W w.heap.size 22 V
  rs : ∃ v, RowAt W (w.heap.size + 1) 50 (rawC R.fmt R.head v) ∧ OwnX (w.heap.size + 2) W v R.items
  be : Below w.heap.size w W
  sz : w.heap.size + 2 ≤ W.heap.size
theorem PaJ.up {w : World} {V : Value} {R : RawT} {W W' : World} (h : PaJ w V R W) (hb : Below W.heap.size W W') : PaJ w V R W' := by
  obtain ⟨v, h1, h2⟩ := h.rs
  exact ⟨(hb.block _ h.bl.lt).trans h.bl, ⟨v, h1.below hb h1.lt, h2.below hb (Nat.le_refl _)⟩, h.be.trans (hb.mono h.be.size), Nat.le_trans h.sz hb.size⟩
theorem PaJ.turn {w : World} {V : Value} {R : RawT} {B : Nat} (hB : w.heap.size + 2 ≤ B) {X Y : World} (h : PaJ w V R X) (ht : Turns NoMu B X Y) : PaJ w V R Y := by
  have hbl := ht.below (C := w.heap.size) (by omega) h.be.size
  obtain ⟨v, h1, h2⟩ := h.rs
  exact ⟨RowAt.turn h.bl ht (by omega), ⟨v, h1.turn ht (by omega), own_turn h2 ht⟩, h.be.trans hbl, Nat.le_trans h.sz hbl.size⟩
/-- a raw feed's head, all set. -/
def World.setHd (W : World) (b : Nat) (H : Itm) : World := ((((((W.setCell ⟨b, 1, none⟩ (.string H.id)).setCell ⟨b, 2, none⟩ (.string H.title)).setCell ⟨b, 3, none⟩ (.string H.link)).setCell ⟨b, 4, none⟩ (.string H.author)).setCell ⟨b, 5, none⟩ (.string H.content)).setCell ⟨b, 6, none⟩ (.string H.date)).setCell ⟨b, 7, none⟩ (.int .i8 H.kind)
theorem hd_row {W : World} {b : Nat} {T : TypeId} {f : Int} {H0 : Itm} {v : Value} (h : RowAt W b T (rawC f H0 v)) (H : Itm) : RowAt (World.setHd W b H) b T (rawC f H v) := by
  unfold World.setHd
  have h := ((((((h.set 1 (.string H.id)).set 2 (.string H.title)).set 3 (.string H.link)).set 4 (.string H.author)).set 5 (.string H.content)).set 6 (.string H.date)).set 7 (.int .i8 H.kind)
  simpa [rawC] using h
theorem hd_other {W : World} {b g : Nat} {T : TypeId} {cs : Array Value} (h : RowAt W g T cs) (hne : g ≠ b) (H : Itm) : RowAt (World.setHd W b H) g T cs := by
  unfold World.setHd
  exact ((((((h.far hne 1 _).far hne 2 _).far hne 3 _).far hne 4 _).far hne 5 _).far hne 6 _).far hne 7 _
theorem hd_below {W0 W : World} {B b : Nat} (h : Below B W0 W) (hb : B ≤ b) (H : Itm) : Below B W0 (World.setHd W b H) := by
  unfold World.setHd
  exact ((((((h.setCell (p := ⟨b, 1, none⟩) hb _).setCell (p := ⟨b, 2, none⟩) hb _).setCell (p := ⟨b, 3, none⟩) hb _).setCell (p := ⟨b, 4, none⟩) hb _).setCell (p := ⟨b, 5, none⟩) hb _).setCell (p := ⟨b, 6, none⟩) hb _).setCell (p := ⟨b, 7, none⟩) hb _
theorem hd_own {base : Nat} {w : World} {v : Value} {l : List Itm} (h : OwnX base w v l) {b : Nat} (hb : b < base) (H : Itm) : OwnX base (World.setHd w b H) v l := by
  unfold World.setHd
  exact ((((((h.setFar hb 1 _).setFar hb 2 _).setFar hb 3 _).setFar hb 4 _).setFar hb 5 _).setFar hb 6 _).setFar hb 7 _
theorem hd_keepsO (W : World) (b : Nat) (H : Itm) : KeepsOthers W (World.setHd W b H) := by
  unfold World.setHd
  exact ((((((KeepsOthers.setCell _ _ _).trans (KeepsOthers.setCell _ _ _)).trans (KeepsOthers.setCell _ _ _)).trans (KeepsOthers.setCell _ _ _)).trans (KeepsOthers.setCell _ _ _)).trans (KeepsOthers.setCell _ _ _)).trans (KeepsOthers.setCell _ _ _)
theorem PaJ.hd {w : World} {V : Value} {R : RawT} {W : World} (h : PaJ w V R W) (H : Itm) : PaJ w V ⟨R.fmt, H, R.items⟩ (World.setHd W (w.heap.size + 1) H) := by
  obtain ⟨v, h1, h2⟩ := h.rs
  have hs : W.heap.size ≤ (World.setHd W (w.heap.size + 1) H).heap.size := (hd_below (Below.refl 0 W) (Nat.zero_le _) H).size
  exact ⟨hd_other h.bl (by omega) H, ⟨v, hd_row h1 H, hd_own h2 (by omega) H⟩, hd_below h.be (Nat.le_succ _) H, Nat.le_trans h.sz hs⟩
theorem PaJ.fmt {w : World} {V : Value} {R : RawT} {W : World} (h : PaJ w V R W) (f : Int) : PaJ w V ⟨f, R.head, R.items⟩ (W.setCell ⟨w.heap.size + 1, 0, none⟩ (.int .i8 f)) := by
  obtain ⟨v, h1, h2⟩ := h.rs
  refine ⟨RowAt.far h.bl (by omega) 0 _, ⟨v, ?_, h2.setFar (by omega) 0 _⟩, h.be.setCell (p := ⟨w.heap.size + 1, 0, none⟩) (Nat.le_succ _) _, by simpa using h.sz⟩
  have h3 := h1.set 0 (.int .i8 f)
  simpa [rawC] using h3
theorem PaJ.item {w : World} {V : Value} {R : RawT} {W : World} (h : PaJ w V R W) {u : Value} (X : Itm) {W' : World} (hN : RawN W W' (w.heap.size + 1) (w.heap.size + 2) R.fmt R.head (R.items ++ [X]) u) : PaJ w V ⟨R.fmt, R.head, R.items ++ [X]⟩ W' := by
  have hb := hN.be (w.heap.size + 1) (Nat.le_refl _)
  exact ⟨RowAt.below h.bl hb (by omega), ⟨u, hN.row, hN.own⟩, h.be.trans (hb.mono (Nat.le_succ _)), Nat.le_trans h.sz hb.size⟩
theorem PaJ.setO {w : World} {V : Value} {R : RawT} {W : World} (h : PaJ w V R W) {fx : Nat} {v : Value} (hfx : w.heap.size + 2 ≤ fx) (hb : Boxed W fx 31 v) (u : Value) : PaJ w V R (W.setCell ⟨fx, 0, none⟩ u) := by
  obtain ⟨v0, h1, h2⟩ := h.rs
  exact ⟨RowAt.far h.bl (by omega) 0 u, ⟨v0, h1.far (by omega) 0 u, (KeepsT.setCell (Ts := [47]) hb (by decide) 0 u).row h2 (by simp)⟩, h.be.setCell (p := ⟨fx, 0, none⟩) (by show _ ≤ fx; omega) u, by simpa using h.sz⟩
theorem FrAt.new {W : World} {lo fx : Nat} {v : Value} (hlo : lo ≤ W.heap.size) (hb : Boxed W fx 31 v) (L : List Nat) (n : Nat) (hn : L.length = n) (cs : Array Value) (hcs : cs = (L.map fun i : Nat => Value.int .i64 (i : Int)).toArray) : FrAt ((W.alloc (.cells cs 3)).setCell ⟨fx, 0, none⟩ (.slice (some ⟨W.heap.size, 0, none⟩) n n)) lo fx L := by
  subst hn
  subst hcs
  have h1 := RowAt.new W (L.map fun i : Nat => Value.int .i64 (i : Int)).toArray 3
  exact ⟨W.heap.size, (hb.alloc _).set _, h1.far (by have := hb.lt; omega) 0 _, hlo⟩
theorem leaves_marksC {F : Fence} {n : Nat} {P : Program} {fn : Func} {tmps : Array Value} {R : Ending → World → Prop} {lo : Nat} : ∀ (Ds : List Nat) (W : World), MarksAt lo Ds W →
    (∀ W', Below lo W W' → (∀ Ts, KeepsT Ts W W') → ∃ v, (results fn tmps).run P W' = .ok v W' ∧ R (.returned v) W') → LeavesInM F n P fn tmps R (marks Ds) .returning W
  | [], W, _, h => h W (Below.refl _ _) fun _ => ⟨Nat.le_refl _, fun _ _ _ _ _ _ => rfl⟩
  | D :: Ds, W, hm, h => by
    obtain ⟨h1, h2⟩ := hm.pl D (List.mem_cons_self ..)
    refine ⟨by simp, .inl ⟨D, W.putObj D (.deferred none), rfl, run_takeDeferred h2, leaves_marksC (lo := lo) Ds _ ?_ ?_⟩⟩
    · refine ⟨(List.nodup_cons.1 hm.nd).2, fun E hE => ⟨(hm.pl E (List.mem_cons_of_mem _ hE)).1, ?_⟩⟩
      have hne : D ≠ E := fun e => (List.nodup_cons.1 hm.nd).1 (e ▸ hE)
      exact (World.putObj_heap_other (fun e => hne e.symm)).trans (hm.pl E (List.mem_cons_of_mem _ hE)).2
    · intro W' hb hk
      exact h W' ((below_putObj h1 h2 rfl).trans hb) fun Ts => (KeepsT.putObj h2 rfl).trans (hk Ts)
end Go.Proofs.Yteefopeclfojiaa
/- 
  A region that draws its order, inside a fence or in a round of a range: what yields its value in every world of a class may be taken first; the class is kept up to a tail that goes in the text's order.
 -/
namespace Go.Proofs.Yteefopeclfojiaa
open Go
section
variable {F : Fence} {n : Nat} {P : Program} {ops : Array Oper} {Q : Exit → Act → World → Prop} {md : Region.Mode} {S : World → Prop} {m : Nat}
/-- whatever order is picked: the class is kept by each operation ahead of the tail. -/
def wpAnyT (F : Fence) (n : Nat) (P : Program) (md : Region.Mode) (ops : Array Oper) (Q : Exit → Act → World → Prop) (S : World → Prop) (m : Nat) : Nat → Array Bool → Act → World → Prop
  | 0, listed, a, w => Region.seqB md ops (ops.size - m) m listed = true ∧ wpListIn F n P ops Q (ops.toList.drop m) a w
  | f + 1, listed, a, w => Region.ready md ops listed ≠ [] ∧ ∀ i ∈ Region.ready md ops listed, i < m ∧ wpOpIn F n P ops Q i (fun a' w' => S w' ∧ wpAnyT F n P md ops Q S m f (listed.setIfInBounds i true) a' w') a w
theorem wpAnyIn_of_T : ∀ (f : Nat) (listed : Array Bool) (a : Act) (w : World), wpAnyT F n P md ops Q S m f listed a w → wpAnyIn F n P md ops Q (f + (ops.size - m)) listed a w
  | 0, listed, a, w, h => by
    rw [Nat.zero_add]
    have hl : (ops.toList.drop m).length = ops.size - m := by simp
    have := wpAnyIn_of_seq (F := F) (n := n) (P := P) (md := md) (Q' := Q) (ops := ops) (ops.toList.drop m) m listed a w (fun j => by simp [List.getElem?_drop]) (by rw [hl]; exact h.1) h.2
    rwa [hl] at this
  | f + 1, listed, a, w, h => by
    rw [show f + 1 + (ops.size - m) = (f + (ops.size - m)) + 1 by omega]
    exact ⟨fun h0 => absurd h0 h.1, fun i hi => wpOpIn_mono (fun a' w' h' => wpAnyIn_of_T f _ a' w' h'.2) (h.2 i hi).2⟩
/-- it yields its value in every world of the class, and is about to make no call. -/
def YieldsT (P : Program) (ops : Array Oper) (S : World → Prop) (o : Oper) (v : Value) (a : Act) : Prop := YieldsIf P ops S o v a ∧ ∀ w, o.about P w a.eval = none
theorem YieldsT.wpOpIn {i : Nat} {o : Oper} {v : Value} {a : Act} (hnd : noDefer ops = true) (hi : ops[i]? = some o) (hy : YieldsT P ops S o v a) {K : Act → World → Prop} {w : World} (hS : S w) (h : K (a.put o.dst v) w) : wpOpIn F n P ops Q i K a w := by
  unfold Go.wpOpIn
  simp only [hi]
  have hab : ∀ f, o.about P w a.eval = some f → F.fn f := fun f hf => by rw [hy.2 w] at hf; cases hf
  rcases hy.1 with ⟨hw, hv⟩ | ⟨hw, rfl⟩
  · simp only [hw, if_true]
    unfold Oper.wpIn
    rw [Oper.semAt_plain F _ _ (noDefer_spec hnd hi), hv w hS]
    exact ⟨hab, h⟩
  · simp only [hw, Bool.false_eq_true, if_false]; exact ⟨hab, h⟩
theorem YieldsT.of_same {o : Oper} {v : Value} {a a' : Act} (hy : YieldsT P ops S o v a) (he : execOp a'.eval o = execOp a.eval o)
    (hw : Region.wanted o (yielded ops a'.tmps) = Region.wanted o (yielded ops a.tmps)) (hb : ∀ w, o.about P w a'.eval = o.about P w a.eval) : YieldsT P ops S o v a' :=
  ⟨hy.1.of_same he hw, fun w => by rw [hb w]; exact hy.2 w⟩
theorem wpOpIn_putT {j : Nat} {oi oj : Oper} {v : Value} (hnd : noDefer ops = true) (hj : ops[j]? = some oj) (hap : oi.apart ops oj = true)
    (hsi : ∀ cs b, oi.op ≠ .select cs b) (hsj : ∀ cs b, oj.op ≠ .select cs b)
    (hQ : ∀ c a w, Q (.panic c) (a.put oi.dst v) w → Q (.panic c) a w) {K : Act → World → Prop} {a : Act} {w : World}
    (hy : YieldsT P ops S oi v a) (h : wpOpIn F n P ops Q j K (a.put oi.dst v) w) :
    wpOpIn F n P ops Q j (fun a' w' => YieldsT P ops S oi v a' ∧ K (a'.put oi.dst v) w') a w := by
  obtain ⟨h1, h2, h3⟩ := Oper.apart_spec hap
  have keep : ∀ (a : Act), YieldsT P ops S oi v a → ∀ u, YieldsT P ops S oi v (a.put oj.dst u) := fun a hy u =>
    hy.of_same (execOp_put oi hsi a oj.dst u h3) (wanted_put oi a oj.dst u h3) (fun w => about_put oi w a oj.dst u h3)
  have keepD : ∀ d, YieldsT P ops S oi v { a with defers := d :: a.defers } := fun d => hy.of_same rfl rfl (fun _ => rfl)
  have hnj := noDefer_spec hnd hj
  unfold wpOpIn at *
  simp only [hj] at *
  rw [wanted_put oj a oi.dst v h1, about_put oj w a oi.dst v h1] at h
  split
  · rename_i hw
    simp only [hw, if_true] at h
    unfold Oper.wpIn at *
    rw [about_put oj w a oi.dst v h1] at h
    refine ⟨h.1, ?_⟩
    have h := h.2
    rw [Oper.semAt_plain F _ _ hnj, execOp_put oj hsj a oi.dst v h1] at h
    rw [Oper.semAt_plain F _ _ hnj]
    generalize (execOp a.eval oj).run P w = r at *
    cases r with
    | ok x w' =>
      cases x <;> simp only [Oper.uponIn] at h ⊢
      case value u => exact ⟨keep a hy u, by rw [← Act.put_comm a v u h2]; exact h⟩
      case skip => exact ⟨keep a hy _, by rw [← Act.put_comm a v undef h2]; exact h⟩
      case defer d =>
        refine ⟨keep _ (keepD d) _, ?_⟩
        rw [← Act.put_comm _ v undef h2, ← Act.put_defers]
        exact h
      case enter f args =>
        refine ⟨h.1, CallsIn.mono h.2 fun e w'' he => ?_⟩
        cases e with
        | returned u => exact ⟨keep a hy u, by rw [← Act.put_comm a v u h2]; exact he⟩
        | panicked c => exact hQ _ _ _ he
        | outgrown => exact he
      case row row args => exact ⟨h.1, RowsIn.mono h.2 fun u w'' he => ⟨keep a hy u, by rw [← Act.put_comm a v u h2]; exact he⟩⟩
      case round l f tmps assign body =>
        refine ⟨h.1, RoundIn.mono h.2 fun e w'' he => ?_⟩
        cases e with
        | returned u => exact ⟨keep a hy u, by rw [← Act.put_comm a v u h2]; exact he⟩
        | panicked c => exact hQ _ _ _ he
        | outgrown => exact he
    | halt x w' =>
      cases x <;> simp only [Oper.uponIn] at h ⊢
      case panic u => exact hQ _ _ _ h
  · rename_i hw
    simp only [hw] at h
    exact ⟨h.1, keep a hy _, by rw [← Act.put_comm a v undef h2]; exact h.2⟩
theorem wpAnyT_first {i : Nat} {oi : Oper} {v : Value} (hnd : noDefer ops = true) (hi : ops[i]? = some oi) (hsel : ∀ (j : Nat) (o : Oper) cs b, ops[j]? = some o → o.op ≠ .select cs b)
    (hs : Region.sinkB md ops m = true) (hc : Region.chainB md ops m = true) (hn : m < ops.size) (hin : i < m)
    (hQ : ∀ c a w, Q (.panic c) (a.put oi.dst v) w → Q (.panic c) a w) :
    ∀ (f : Nat) (listed : Array Bool) (a : Act) (w : World), HeadInv md ops m listed →
      (∀ j oj, ops[j]? = some oj → j ≠ i → listed.getD j true = false → (∀ e ∈ oj.after, Region.binds md e = true → e.on ≠ i) → oi.apart ops oj = true) →
      i ∈ Region.ready md ops listed → YieldsT P ops S oi v a → S w →
      wpAnyT F n P md ops Q S m f (listed.setIfInBounds i true) (a.put oi.dst v) w → wpAnyT F n P md ops Q S m (f + 1) listed a w := by
  intro f
  induction f with
  | zero =>
    intro listed a w inv _ hr hy hS H
    have hun := (mem_ready.1 hr).1
    refine ⟨fun h => (by rw [h] at hr; cases hr), fun j hj => ?_⟩
    have hjn : j < m := by
      rcases Nat.lt_or_ge j m with h | h
      · exact h
      · exact absurd hj (tail_waits hs hc hn inv _ i rfl hin hun j h)
    refine ⟨hjn, ?_⟩
    by_cases hji : j = i
    · subst hji; exact hy.wpOpIn hnd hi hS ⟨hS, H⟩
    · have := seqB_ready H.1 j (ready_mono hj hji)
      omega
  | succ f ih =>
    intro listed a w inv hfree hr hy hS H
    have hun := (mem_ready.1 hr).1
    refine ⟨fun h => (by rw [h] at hr; cases hr), fun j hj => ?_⟩
    have hjn : j < m := by
      rcases Nat.lt_or_ge j m with h | h
      · exact h
      · exact absurd hj (tail_waits hs hc hn inv _ i rfl hin hun j h)
    refine ⟨hjn, ?_⟩
    by_cases hji : j = i
    · subst hji; exact hy.wpOpIn hnd hi hS ⟨hS, H⟩
    · have h1 := (H.2 j (ready_mono hj hji)).2
      obtain ⟨hjun, oj, hoj, hall⟩ := mem_ready.1 hj
      have hnot : ∀ e ∈ oj.after, Region.binds md e = true → e.on ≠ i := fun e he hb heq => by
        have h1 := hall e he hb
        rw [heq, getD_both hun] at h1
        cases h1
      have h2 := wpOpIn_putT hnd hoj (hfree j oj hoj hji hjun hnot) (fun cs b => hsel i oi cs b hi) (fun cs b => hsel j oj cs b hoj) hQ hy h1
      have hfree' : ∀ k ok, ops[k]? = some ok → k ≠ i → (listed.setIfInBounds j true).getD k true = false →
          (∀ e ∈ ok.after, Region.binds md e = true → e.on ≠ i) → oi.apart ops ok = true := fun k ok hk hki hun hno => by
        refine hfree k ok hk hki ?_ hno
        by_cases hjk : j = k
        · subst hjk; exact hjun
        · rw [getD_set_ne true hjk] at hun; exact hun
      refine wpOpIn_mono (fun a' w' h3 => ⟨h3.2.1, ih (listed.setIfInBounds j true) a' w' (inv.set hj hjn) hfree' (ready_mono hr (Ne.symm hji)) h3.1 h3.2.1 ?_⟩) h2
      rw [Array.setIfInBounds_comm _ _ hji]
      exact h3.2.2
/-- the state of a walk: what has come up, all of it ahead of the tail. -/
def WalkT (F : Fence) (n : Nat) (P : Program) (md : Region.Mode) (ops : Array Oper) (Q : Exit → Act → World → Prop) (S : World → Prop) (m : Nat) (f : Nat) (listed : Array Bool) (a : Act) (w : World) : Prop :=
  HeadInv md ops m listed → wpAnyT F n P md ops Q S m f listed a w
theorem walkT_take {i f : Nat} {oi : Oper} {v : Value} {listed : Array Bool} {a : Act} {w : World} (hi : ops[i]? = some oi) (hB : (noDefer ops && Region.noSelect ops && Region.sinkB md ops m && Region.chainB md ops m && decide (m < ops.size) && decide (i < m) && Region.free md ops listed i && (Region.ready md ops listed).contains i) = true)
    (hQ : ∀ c a w, Q (.panic c) (a.put oi.dst v) w → Q (.panic c) a w) (hy : YieldsT P ops S oi v a) (hS : S w)
    (h : WalkT F n P md ops Q S m f (listed.setIfInBounds i true) (a.put oi.dst v) w) : WalkT F n P md ops Q S m (f + 1) listed a w := fun inv => by
  simp only [Bool.and_eq_true, decide_eq_true_eq] at hB
  obtain ⟨⟨⟨⟨⟨⟨⟨h1, h2⟩, h3⟩, h4⟩, h5⟩, h6⟩, h7⟩, h8⟩ := hB
  have hr : i ∈ Region.ready md ops listed := by simpa using h8
  exact wpAnyT_first h1 hi (Region.noSelect_spec h2) h3 h4 h5 h6 hQ f listed a w inv (Region.free_spec hi h7) hr hy hS (h (inv.set hr h6))
/-- one operation alone may come up. -/
theorem walkT_step {i f : Nat} {o : Oper} {listed : Array Bool} {a : Act} {w : World} (hi : ops[i]? = some o) (hB : (decide (Region.ready md ops listed = [i]) && decide (i < m)) = true)
    (h : ∀ K' : Act → World → Prop, (∀ a w, S w → WalkT F n P md ops Q S m f (listed.setIfInBounds i true) a w → K' a w) → if Region.wanted o (yielded ops a.tmps) = true then Oper.wpIn F n P o a w K' Q else (∀ f, o.about P w a.eval = some f → F.fn f) ∧ K' (a.put o.dst undef) w) :
    WalkT F n P md ops Q S m (f + 1) listed a w := fun inv => by
  simp only [Bool.and_eq_true, decide_eq_true_eq] at hB
  obtain ⟨h1, h2⟩ := hB
  refine ⟨fun h0 => (by rw [h1] at h0; cases h0), fun j hj => ?_⟩
  have hj' := hj
  rw [h1] at hj
  obtain rfl : j = i := by simpa using hj
  refine ⟨h2, wpOpIn_step hi fun K' hK => h K' fun a w hS hW => hK a w ⟨hS, hW (inv.set hj' h2)⟩⟩
/-- the tail. -/
theorem walkT_tail {listed : Array Bool} {a : Act} {w : World} (hB : Region.seqB md ops (ops.size - m) m listed = true) (h : wpListIn F n P ops Q (ops.toList.drop m) a w) : WalkT F n P md ops Q S m 0 listed a w := fun _ => ⟨hB, h⟩
/-- the beginning. -/
theorem wpIn_region_T {id : Nat} {a : Act} {w : World} {l : List Oper} (m : Nat) (S : World → Prop) (hm : P.follows .mixedOrders = true) (hml : m < l.length)
    (h : WalkT F n P .any l.toArray Q S m m (Array.replicate l.length false) a w.drew) : (Code.region id l.toArray true).wpIn F n P Q a w := by
  refine wpIn_region_any hm ?_
  have inv0 : HeadInv .any l.toArray m (Array.replicate l.length false) :=
    ⟨by simp, fun j oj _ hl => (by rw [getD_replicate_false] at hl; cases hl), fun t _ ht => getD_in (by simpa using ht) (getD_replicate_false _ _)⟩
  have := wpAnyIn_of_T _ _ _ _ (h inv0)
  have e : m + (l.toArray.size - m) = l.toArray.size := by simp; omega
  rw [e] at this
  simpa using this
end
end Go.Proofs.Yteefopeclfojiaa
