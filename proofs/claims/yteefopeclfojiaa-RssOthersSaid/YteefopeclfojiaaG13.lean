/-
  Parts RsH RsI of this seat's texts, in one file: contracts of functions that the law reaches, and the plain laws behind them. No condition.
-/
import Derived.Test.YteefopeclfojiaaG12
import Derived.Test.YteefopeclfojiaaG11
/- 
  Layer 23: the walks of rss.head and rss.item: where fields are found.
 -/
namespace Go.Proofs.Yteefopeclfojiaa
open Go.RowKit
/-- rows of names of the call's own, all of them. -/
def AllO (base : Nat) (w : World) (L : List (Value × List NmT)) : Prop := ∀ x ∈ L, OwnN base w x.1 x.2
theorem AllO.nil (base : Nat) (w : World) : AllO base w [] := fun x h => by cases h
theorem AllO.below {base : Nat} {w w' : World} {L : List (Value × List NmT)} (h : AllO base w L) (hb : Below w.heap.size w w') : AllO base w' L := fun x hx => (h x hx).below hb
theorem AllO.push {base : Nat} {w : World} {L : List (Value × List NmT)} (h : AllO base w L) {v : Value} {ns : List NmT} (hv : OwnN base w v ns) : AllO base w ((v, ns) :: L) := fun x hx => by
  rcases List.mem_cons.1 hx with rfl | hx
  · exact hv
  · exact h x hx
/-- a row of one name is written out. -/
theorem AllO.lit {base : Nat} {w : World} {L : List (Value × List NmT)} (h : AllO base w L) (m : NmT) (hb : base ≤ w.heap.size) : AllO base (w.alloc (.cells #[.string m.1, .string m.2] 24)) ((.slice (some ⟨w.heap.size, 0, none⟩) 1 1, [m]) :: L) :=
  (h.below ((Below.refl _ w).alloc (Nat.le_refl _) _)).push ((OwnN.lit (w := w) (ns := [m]) #[.string m.1, .string m.2] rfl 1 rfl (by decide)).mono hb)
theorem OwnN.setFar {base : Nat} {w : World} {v : Value} {ns : List NmT} (h : OwnN base w v ns) {b : Nat} (hb : b < base) (i : Nat) (u : Value) : OwnN base (w.setCell ⟨b, i, none⟩ u) v ns := ownsRow_setCell_below h hb u
theorem AllO.setFar {base : Nat} {w : World} {L : List (Value × List NmT)} (h : AllO base w L) {b : Nat} (hb : b < base) (i : Nat) (u : Value) : AllO base (w.setCell ⟨b, i, none⟩ u) L := fun x hx => (h x hx).setFar hb i u
theorem AllO.alloc {base : Nat} {w : World} {L : List (Value × List NmT)} (h : AllO base w L) (o : Obj) : AllO base (w.alloc o) L := h.below ((Below.refl _ w).alloc (Nat.le_refl _) o)
/-- a form's value. -/
def formV (v1 v2 v3 v4 : Value) (b : Bool) : Value := .agg #[v1, v2, v3, v4, .bool b]
structure FormAt (w : World) (fv : Value) (F : FormT) (base : Nat) : Prop where
  at_ : ∃ a1 c1 a2 c2 a3 c3 a4 c4, fv = formV (.slice a1 F.id.length c1) (.slice a2 F.author.length c2) (.slice a3 F.content.length c3) (.slice a4 F.date.length c4) F.about ∧ OwnN base w (.slice a1 F.id.length c1) F.id ∧ OwnN base w (.slice a2 F.author.length c2) F.author ∧ OwnN base w (.slice a3 F.content.length c3) F.content ∧ OwnN base w (.slice a4 F.date.length c4) F.date
/-- strings written out as a row. -/
theorem strs_lit (w : World) (C : Array Value) (ls : List ByteArray) (n : Nat) (hn : ls.length = n) (hC : C.toList = ls.map Value.string) : StrsAt (w.alloc (.cells C 9)) (.slice (some ⟨w.heap.size, 0, none⟩) n n) ls := by
  subst hn
  refine ⟨_, _, rfl, fun k hk => ⟨_, 0, rfl, by simp, ?_⟩⟩
  have h : C[k]? = some (.string ls[k]) := by
    rw [← Array.getElem?_toList, hC, List.getElem?_map, List.getElem?_eq_getElem hk]
    rfl
  rw [Nat.zero_add]
  have h2 := World.cell?_alloc_new w C 9 k
  rw [h2]
  simpa using h
theorem OwnN.keepT {base : Nat} {w w' : World} {v : Value} {ns : List NmT} (h : OwnN base w v ns) (hk : KeepsT [24] w w') : OwnN base w' v ns := hk.row h (by simp)
theorem AllO.keepT {base : Nat} {w w' : World} {L : List (Value × List NmT)} (h : AllO base w L) (hk : KeepsT [24] w w') : AllO base w' L := fun x hx => (h x hx).keepT hk
/-- a form's cells, all set. -/
def World.setForm (W : World) (b : Nat) (u0 u1 u2 u3 u4 : Value) : World := ((((W.setCell ⟨b, 0, none⟩ u0).setCell ⟨b, 1, none⟩ u1).setCell ⟨b, 2, none⟩ u2).setCell ⟨b, 3, none⟩ u3).setCell ⟨b, 4, none⟩ u4
theorem form_set {W : World} {b : Nat} {x0 x1 x2 x3 x4 : Value} (h : RowAt W b 102 #[x0, x1, x2, x3, x4]) (u0 u1 u2 u3 u4 : Value) : RowAt (World.setForm W b u0 u1 u2 u3 u4) b 102 #[u0, u1, u2, u3, u4] := by
  unfold World.setForm
  have h := ((((h.set 0 u0).set 1 u1).set 2 u2).set 3 u3).set 4 u4
  simpa using h
theorem form_below {W0 W : World} {B b : Nat} (h : Below B W0 W) (hb : B ≤ b) (u0 u1 u2 u3 u4 : Value) : Below B W0 (World.setForm W b u0 u1 u2 u3 u4) := by
  unfold World.setForm
  exact ((((h.setCell (p := ⟨b, 0, none⟩) hb u0).setCell (p := ⟨b, 1, none⟩) hb u1).setCell (p := ⟨b, 2, none⟩) hb u2).setCell (p := ⟨b, 3, none⟩) hb u3).setCell (p := ⟨b, 4, none⟩) hb u4
theorem form_keeps {W : World} {b : Nat} {cs : Array Value} (h : RowAt W b 102 cs) {Ts : List TypeId} (hT : 102 ∉ Ts) (u0 u1 u2 u3 u4 : Value) : KeepsT Ts W (World.setForm W b u0 u1 u2 u3 u4) := by
  unfold World.setForm
  have h0 := KeepsT.setRow h hT 0 u0
  have r0 := h.set 0 u0
  have h1 := KeepsT.setRow r0 hT 1 u1
  have r1 := r0.set 1 u1
  have h2 := KeepsT.setRow r1 hT 2 u2
  have r2 := r1.set 2 u2
  have h3 := KeepsT.setRow r2 hT 3 u3
  have r3 := r2.set 3 u3
  exact (((h0.trans h1).trans h2).trans h3).trans (KeepsT.setRow r3 hT 4 u4)
theorem form_size (W : World) (b : Nat) (u0 u1 u2 u3 u4 : Value) : (World.setForm W b u0 u1 u2 u3 u4).heap.size = W.heap.size := by simp [World.setForm]
/-- what lasts while a form is made. -/
structure HdS (w W : World) (cs : Array Value) (L : List (Value × List NmT)) : Prop where
  b : Below w.heap.size w W
  r : RowAt W w.heap.size 102 cs
  a : AllO w.heap.size W L
theorem HdS.lt {w W : World} {cs : Array Value} {L : List (Value × List NmT)} (h : HdS w W cs L) : w.heap.size + 1 ≤ W.heap.size := h.r.lt
theorem HdS.up {w W W' : World} {cs : Array Value} {L : List (Value × List NmT)} (h : HdS w W cs L) (hb : Below W.heap.size W W') : HdS w W' cs L := ⟨bt h.b hb, h.r.below hb h.r.lt, h.a.below hb⟩
theorem HdS.alloc {w W : World} {cs : Array Value} {L : List (Value × List NmT)} (h : HdS w W cs L) (o : Obj) : HdS w (W.alloc o) cs L := h.up ((Below.refl _ W).alloc (Nat.le_refl _) o)
theorem HdS.lit {w W : World} {cs : Array Value} {L : List (Value × List NmT)} (h : HdS w W cs L) (m : NmT) : HdS w (W.alloc (.cells #[.string m.1, .string m.2] 24)) cs ((.slice (some ⟨W.heap.size, 0, none⟩) 1 1, [m]) :: L) :=
  ⟨(h.alloc _).b, (h.alloc _).r, h.a.lit m (by have := h.lt; omega)⟩
theorem HdS.push {w W : World} {cs : Array Value} {L : List (Value × List NmT)} (h : HdS w W cs L) {v : Value} {ns : List NmT} (hv : OwnN w.heap.size W v ns) : HdS w W cs ((v, ns) :: L) := ⟨h.b, h.r, h.a.push hv⟩
/-- 'append(v, n)', v a row that was made behind all the others. -/
theorem HdS.app {w X x1 x2 : World} {cs : Array Value} {L : List (Value × List NmT)} (h : HdS w X cs L) {v : Value} {ns : List NmT} (hv : OwnN X.heap.size x1 v ns) (hb1 : Below X.heap.size X x1) (hb2 : Below x1.heap.size x1 x2) (m : NmT) (hn : ns.length + 1 ≤ 1000) :
    ∃ a c W', (Builtin.append_ #[38, 38] 38 #[v, .slice (some ⟨x2.heap.size, 0, none⟩) 1 1]).run Try.prog (x2.alloc (.cells #[.string m.1, .string m.2] 24)) = .ok (.slice a (ns ++ [m]).length c) W' ∧ HdS w W' cs ((.slice a (ns ++ [m]).length c, ns ++ [m]) :: L) := by
  have hv2 := hv.below hb2
  have hs2 : X.heap.size ≤ x2.heap.size := Nat.le_trans hb1.size hb2.size
  obtain ⟨a, c, W', h1, h2, h3⟩ := hv2.app1 m hs2 (by omega)
  rw [show ns.length + 1 = (ns ++ [m]).length by simp] at h1 h2
  have hB : Below X.heap.size X W' := (bt hb1 hb2).trans h3
  exact ⟨a, c, W', h1, (h.up hB).push (h2.mono h.b.size)⟩
set_option maxRecDepth 100000 in
set_option maxHeartbeats 8000000 in
theorem rss_head (w : World) :
    Calls Try.prog 83 #[] w fun r w' => ∃ fv, r = .returned fv ∧ FormAt w' fv headF w.heap.size ∧ Below w.heap.size w w' := by
  have H0 : HdS w (w.alloc (.cells #[.slice none 0 0, .slice none 0 0, .slice none 0 0, .slice none 0 0, .bool false] 102)) #[.slice none 0 0, .slice none 0 0, .slice none 0 0, .slice none 0 0, .bool false] [] := ⟨(Below.refl _ w).alloc (Nat.le_refl _) _, RowAt.new w _ _, AllO.nil _ _⟩
  go_enter Try.func83, Try.ntmps83
  go_wp2_with fail
  generalize w.alloc (.cells #[.slice none 0 0, .slice none 0 0, .slice none 0 0, .slice none 0 0, .bool false] 102) = w0 at H0 ⊢
  refine (rss_core _ w0).mono ?_
  rintro r w1 ⟨rfl, hb1⟩
  have H1 := (H0.up hb1).lit (spC, ⟨#[105, 100, 101, 110, 116, 105, 102, 105, 101, 114]⟩)
  go_wp2_with fail
  refine (rss_core _ _).mono ?_
  rintro r w2 ⟨rfl, hb2⟩
  have H2 := (H1.up hb2).lit (spC, ⟨#[99, 114, 101, 97, 116, 111, 114]⟩)
  go_wp2_with fail
  refine (rss_core _ _).mono ?_
  rintro r w3 ⟨rfl, hb3⟩
  have H3 := (H2.up hb3).lit (spC, ⟨#[100, 101, 115, 99, 114, 105, 112, 116, 105, 111, 110]⟩)
  have hs3 := strs_lit (w3.alloc (.cells #[.string spC, .string ⟨#[100, 101, 115, 99, 114, 105, 112, 116, 105, 111, 110]⟩] 24)) #[.string ⟨#[108, 97, 115, 116, 66, 117, 105, 108, 100, 68, 97, 116, 101]⟩, .string ⟨#[112, 117, 98, 68, 97, 116, 101]⟩] [⟨#[108, 97, 115, 116, 66, 117, 105, 108, 100, 68, 97, 116, 101]⟩, ⟨#[112, 117, 98, 68, 97, 116, 101]⟩] 2 rfl rfl
  go_wp2_with fail
  have H4 := H3.alloc (.cells #[.string ⟨#[108, 97, 115, 116, 66, 117, 105, 108, 100, 68, 97, 116, 101]⟩, .string ⟨#[112, 117, 98, 68, 97, 116, 101]⟩] 9)
  generalize (w3.alloc (.cells #[.string spC, .string ⟨#[100, 101, 115, 99, 114, 105, 112, 116, 105, 111, 110]⟩] 24)).alloc (.cells #[.string ⟨#[108, 97, 115, 116, 66, 117, 105, 108, 100, 68, 97, 116, 101]⟩, .string ⟨#[112, 117, 98, 68, 97, 116, 101]⟩] 9) = x at H4 hs3 ⊢
  rw [World.size_alloc] at hs3
  refine (rss_plain _ _ _ hs3 (by decide)).mono ?_
  rintro r w4 ⟨a4, c4, rfl, hown4, hb4⟩
  go_wp2_with fail
  refine (rss_core _ _).mono ?_
  rintro r w5 ⟨rfl, hb5⟩
  obtain ⟨a, c, w6, hrun, H6⟩ := H4.app hown4 hb4 hb5 (spC, ⟨#[100, 97, 116, 101]⟩) (by decide)
  have HR := Lib.hid hrun
  have z0 : w6.cell? ⟨w.heap.size, 0, none⟩ = some (.slice none 0 0) := H6.r.blk.cell 0 rfl
  have z1 : w6.cell? ⟨w.heap.size, 1, none⟩ = some (.slice none 0 0) := H6.r.blk.cell 1 rfl
  have z2 : w6.cell? ⟨w.heap.size, 2, none⟩ = some (.slice none 0 0) := H6.r.blk.cell 2 rfl
  have z3 : w6.cell? ⟨w.heap.size, 3, none⟩ = some (.slice none 0 0) := H6.r.blk.cell 3 rfl
  have z4 : w6.cell? ⟨w.heap.size, 4, none⟩ = some (.bool false) := H6.r.blk.cell 4 rfl
  have f0 : w6.frozen? ⟨w.heap.size, 0, none⟩ = false := H6.r.blk.free 0
  have f1 : w6.frozen? ⟨w.heap.size, 1, none⟩ = false := H6.r.blk.free 1
  have f2 : w6.frozen? ⟨w.heap.size, 2, none⟩ = false := H6.r.blk.free 2
  have f3 : w6.frozen? ⟨w.heap.size, 3, none⟩ = false := H6.r.blk.free 3
  have f4 : w6.frozen? ⟨w.heap.size, 4, none⟩ = false := H6.r.blk.free 4
  have HH := Lib.hid H6
  clear hrun hown4 hb4 hb5 hs3 hb1 hb2 hb3 H0 H1 H2 H3 H4 H6
  go_wp2_with (at_builtin; refine wpList_append_run rfl _ _ _ _ rfl _ _ rfl rfl _ _ HR.out ?_)
  have hK := HH.out.a.keepT (form_keeps HH.out.r (Ts := [24]) (by decide) (.slice (some ⟨w1.heap.size, 0, none⟩) 1 1) (.slice (some ⟨w2.heap.size, 0, none⟩) 1 1) (.slice (some ⟨w3.heap.size, 0, none⟩) 1 1) (.slice a 3 c) (.bool false))
  refine bodyPost_ret (results_cell1 rfl _ _ _ _ _ rfl (form_set HH.out.r (.slice (some ⟨w1.heap.size, 0, none⟩) 1 1) (.slice (some ⟨w2.heap.size, 0, none⟩) 1 1) (.slice (some ⟨w3.heap.size, 0, none⟩) 1 1) (.slice a 3 c) (.bool false)).blk Try.underlying102 rfl (by kernel_rfl)) rfl ⟨_, rfl, ⟨_, _, _, _, _, _, _, _, rfl, ?_, ?_, ?_, ?_⟩, form_below HH.out.b (Nat.le_refl _) _ _ _ _ _⟩
  · exact hK (.slice (some ⟨w1.heap.size, 0, none⟩) 1 1, _) (.tail _ (.tail _ (.tail _ (.head _))))
  · exact hK (.slice (some ⟨w2.heap.size, 0, none⟩) 1 1, _) (.tail _ (.tail _ (.head _)))
  · exact hK (.slice (some ⟨w3.heap.size, 0, none⟩) 1 1, _) (.tail _ (.head _))
  · exact hK _ (.head _)
end Go.Proofs.Yteefopeclfojiaa
/- 
  Layer 23: the walk of rss.item.
 -/
namespace Go.Proofs.Yteefopeclfojiaa
open Go.RowKit
/-- what holds when an item's form is made. -/
structure ItS (w W : World) (b3 : Nat) (v1 v2 v3 v4 : Value) (F : FormT) : Prop where
  b : Below w.heap.size w W
  r : RowAt W w.heap.size 102 #[.slice none 0 0, .slice none 0 0, .slice none 0 0, .slice none 0 0, .bool false]
  r3 : RowAt W b3 102 #[v1, v2, v3, v4, .bool F.about]
  lt : w.heap.size < b3
  o1 : OwnN w.heap.size W v1 F.id
  o2 : OwnN w.heap.size W v2 F.author
  o3 : OwnN w.heap.size W v3 F.content
  o4 : OwnN w.heap.size W v4 F.date
theorem ItS.up {w W W' : World} {b3 : Nat} {v1 v2 v3 v4 : Value} {F : FormT} (h : ItS w W b3 v1 v2 v3 v4 F) (hb : Below W.heap.size W W') : ItS w W' b3 v1 v2 v3 v4 F :=
  ⟨bt h.b hb, h.r.below hb h.r.lt, h.r3.below hb h.r3.lt, h.lt, h.o1.below hb, h.o2.below hb, h.o3.below hb, h.o4.below hb⟩
/-- the form's ids set. -/
theorem ItS.ids {w W : World} {b3 : Nat} {v1 v2 v3 v4 : Value} {F : FormT} (h : ItS w W b3 v1 v2 v3 v4 F) {u : Value} {ns : List NmT} (hu : OwnN w.heap.size W u ns) : ItS w (W.setCell ⟨b3, 0, none⟩ u) b3 u v2 v3 v4 { F with id := ns } := by
  have hk := KeepsT.setRow (Ts := [24]) h.r3 (by decide) 0 u
  refine ⟨h.b.setCell (p := ⟨b3, 0, none⟩) (by show _ ≤ b3; have := h.lt; omega) u, h.r.far (by have := h.lt; omega) 0 u, ?_, h.lt, hu.keepT hk, h.o2.keepT hk, h.o3.keepT hk, h.o4.keepT hk⟩
  have h2 := h.r3.set 0 u
  simpa using h2
theorem ItS.fin {w W : World} {b3 : Nat} {v1 v2 v3 v4 : Value} {F : FormT} (h : ItS w W b3 v1 v2 v3 v4 F) :
    RowAt (World.setForm W w.heap.size v1 v2 v3 v4 (.bool F.about)) w.heap.size 102 #[v1, v2, v3, v4, .bool F.about] ∧ FormAt (World.setForm W w.heap.size v1 v2 v3 v4 (.bool F.about)) (formV v1 v2 v3 v4 F.about) F w.heap.size ∧ Below w.heap.size w (World.setForm W w.heap.size v1 v2 v3 v4 (.bool F.about)) := by
  have hk := form_keeps h.r (Ts := [24]) (by decide) v1 v2 v3 v4 (.bool F.about)
  obtain ⟨a1, c1, rfl⟩ := h.o1.form
  obtain ⟨a2, c2, rfl⟩ := h.o2.form
  obtain ⟨a3, c3, rfl⟩ := h.o3.form
  obtain ⟨a4, c4, rfl⟩ := h.o4.form
  exact ⟨form_set h.r _ _ _ _ _, ⟨_, _, _, _, _, _, _, _, rfl, h.o1.keepT hk, h.o2.keepT hk, h.o3.keepT hk, h.o4.keepT hk⟩, form_below h.b (Nat.le_refl _) _ _ _ _ _⟩
/-- one slice more in a row of slices. -/
theorem rows_lit {w : World} {v1 v2 v3 v4 : Value} {n1 n2 n3 n4 : List NmT} (h1 : NsR w v1 n1) (h2 : NsR w v2 n2) (h3 : NsR w v3 n3) (h4 : NsR w v4 n4) :
    RowsAt (w.alloc (.cells #[v1, v2, v3, v4] 38)) (.slice (some ⟨w.heap.size, 0, none⟩) 4 4) [(v1, n1), (v2, n2), (v3, n3), (v4, n4)] := by
  have hb := (Below.refl w.heap.size w).alloc (Nat.le_refl _) (.cells #[v1, v2, v3, v4] 38)
  refine ⟨_, _, rfl, fun k x hk => ?_⟩
  match k, hk with
  | 0, hk => cases hk; exact ⟨h1.below hb, _, _, rfl, by simp, World.cell?_alloc_new w _ _ 0⟩
  | 1, hk => cases hk; exact ⟨h2.below hb, _, _, rfl, by simp, World.cell?_alloc_new w _ _ 1⟩
  | 2, hk => cases hk; exact ⟨h3.below hb, _, _, rfl, by simp, World.cell?_alloc_new w _ _ 2⟩
  | 3, hk => cases hk; exact ⟨h4.below hb, _, _, rfl, by simp, World.cell?_alloc_new w _ _ 3⟩
  | k + 4, hk => simp at hk
theorem form_other {W : World} {b g : Nat} {T : TypeId} {cs : Array Value} (h : RowAt W g T cs) (hne : g ≠ b) (u0 u1 u2 u3 u4 : Value) : RowAt (World.setForm W b u0 u1 u2 u3 u4) g T cs := by
  unfold World.setForm
  exact ((((h.far hne 0 u0).far hne 1 u1).far hne 2 u2).far hne 3 u3).far hne 4 u4
attribute [local go_sem ↓] app_veil
set_option maxRecDepth 100000 in
set_option maxHeartbeats 16000000 in
theorem rss_item (fmt : Int) (hfmt : fmt = 1 ∨ fmt = 2) (w : World) :
    Calls Try.prog 86 #[.int .i8 fmt] w fun r w' => ∃ fv, r = .returned fv ∧ FormAt w' fv (itemF fmt) w.heap.size ∧ Below w.heap.size w w' := by
  have H0 : HdS w (w.alloc (.cells #[.slice none 0 0, .slice none 0 0, .slice none 0 0, .slice none 0 0, .bool false] 102)) #[.slice none 0 0, .slice none 0 0, .slice none 0 0, .slice none 0 0, .bool false] [] := ⟨(Below.refl _ w).alloc (Nat.le_refl _) _, RowAt.new w _ _, AllO.nil _ _⟩
  go_enter Try.func86, Try.ntmps86
  go_wp2_with fail
  generalize w.alloc (.cells #[.slice none 0 0, .slice none 0 0, .slice none 0 0, .slice none 0 0, .bool false] 102) = w0 at H0 ⊢
  refine (rss_core _ w0).mono ?_
  rintro r w1 ⟨rfl, hb1⟩
  have H1 := ((H0.up hb1).lit (spC, ⟨#[105, 100, 101, 110, 116, 105, 102, 105, 101, 114]⟩)).alloc (.cells #[.string ⟨#[97, 117, 116, 104, 111, 114]⟩] 9)
  have hs1 := strs_lit (w1.alloc (.cells #[.string spC, .string ⟨#[105, 100, 101, 110, 116, 105, 102, 105, 101, 114]⟩] 24)) #[.string ⟨#[97, 117, 116, 104, 111, 114]⟩] [⟨#[97, 117, 116, 104, 111, 114]⟩] 1 rfl rfl
  go_wp2_with fail
  generalize (w1.alloc (.cells #[.string spC, .string ⟨#[105, 100, 101, 110, 116, 105, 102, 105, 101, 114]⟩] 24)).alloc (.cells #[.string ⟨#[97, 117, 116, 104, 111, 114]⟩] 9) = x1 at H1 hs1 ⊢
  rw [World.size_alloc] at hs1
  refine (rss_plain _ _ _ hs1 (by decide)).mono ?_
  rintro r w2 ⟨a2, c2, rfl, hown2, hb2⟩
  go_wp2_with fail
  refine (rss_core _ _).mono ?_
  rintro r w3 ⟨rfl, hb3⟩
  obtain ⟨a4, c4, w4, hrun4, H4⟩ := H1.app hown2 hb2 hb3 (spC, ⟨#[99, 114, 101, 97, 116, 111, 114]⟩) (by decide)
  have HR4 := Lib.hid hrun4
  have H5 := (H4.lit (⟨#[104, 116, 116, 112, 58, 47, 47, 112, 117, 114, 108, 46, 111, 114, 103, 47, 114, 115, 115, 47, 49, 46, 48, 47, 109, 111, 100, 117, 108, 101, 115, 47, 99, 111, 110, 116, 101, 110, 116, 47]⟩, ⟨#[101, 110, 99, 111, 100, 101, 100]⟩)).alloc (.cells #[.string ⟨#[100, 101, 115, 99, 114, 105, 112, 116, 105, 111, 110]⟩] 9)
  have hs5 := strs_lit (w4.alloc (.cells #[.string ⟨#[104, 116, 116, 112, 58, 47, 47, 112, 117, 114, 108, 46, 111, 114, 103, 47, 114, 115, 115, 47, 49, 46, 48, 47, 109, 111, 100, 117, 108, 101, 115, 47, 99, 111, 110, 116, 101, 110, 116, 47]⟩, .string ⟨#[101, 110, 99, 111, 100, 101, 100]⟩] 24)) #[.string ⟨#[100, 101, 115, 99, 114, 105, 112, 116, 105, 111, 110]⟩] [⟨#[100, 101, 115, 99, 114, 105, 112, 116, 105, 111, 110]⟩] 1 rfl rfl
  clear hrun4 hown2 hb2 hb3 hs1 H0 H1 H4 hb1
  go_wp2_with (at_builtin; refine wpList_append_run rfl _ _ _ _ rfl _ _ rfl rfl _ _ HR4.out ?_)
  generalize (w4.alloc (.cells #[.string ⟨#[104, 116, 116, 112, 58, 47, 47, 112, 117, 114, 108, 46, 111, 114, 103, 47, 114, 115, 115, 47, 49, 46, 48, 47, 109, 111, 100, 117, 108, 101, 115, 47, 99, 111, 110, 116, 101, 110, 116, 47]⟩, .string ⟨#[101, 110, 99, 111, 100, 101, 100]⟩] 24)).alloc (.cells #[.string ⟨#[100, 101, 115, 99, 114, 105, 112, 116, 105, 111, 110]⟩] 9) = x5 at H5 hs5 ⊢
  rw [World.size_alloc] at hs5
  refine (rss_plain _ _ _ hs5 (by decide)).mono ?_
  rintro r w6 ⟨a6, c6, rfl, hown6, hb6⟩
  have H6 := (H5.up hb6).push (hown6.mono H5.b.size)
  clear hs5 hown6 hb6 H5
  go_wp2_with fail
  refine (rss_core _ _).mono ?_
  rintro r w7 ⟨rfl, hb7⟩
  have H7 := ((H6.up hb7).lit (spC, ⟨#[100, 101, 115, 99, 114, 105, 112, 116, 105, 111, 110]⟩)).alloc (.cells #[.string ⟨#[115, 117, 109, 109, 97, 114, 121]⟩] 9)
  have hs7 := strs_lit (w7.alloc (.cells #[.string spC, .string ⟨#[100, 101, 115, 99, 114, 105, 112, 116, 105, 111, 110]⟩] 24)) #[.string ⟨#[115, 117, 109, 109, 97, 114, 121]⟩] [⟨#[115, 117, 109, 109, 97, 114, 121]⟩] 1 rfl rfl
  go_wp2_with fail
  generalize (w7.alloc (.cells #[.string spC, .string ⟨#[100, 101, 115, 99, 114, 105, 112, 116, 105, 111, 110]⟩] 24)).alloc (.cells #[.string ⟨#[115, 117, 109, 109, 97, 114, 121]⟩] 9) = x7 at H7 hs7 ⊢
  rw [World.size_alloc] at hs7
  refine (rss_plain _ _ _ hs7 (by decide)).mono ?_
  rintro r w8 ⟨a8, c8, rfl, hown8, hb8⟩
  have H8 := (H7.up hb8).push (hown8.mono H7.b.size)
  have hS : RowsAt (w8.alloc (.cells #[.slice (some ⟨w4.heap.size, 0, none⟩) 1 1, .slice a6 1 c6, .slice (some ⟨w7.heap.size, 0, none⟩) 1 1, .slice a8 1 c8] 38)) (.slice (some ⟨w8.heap.size, 0, none⟩) 4 4) [(.slice (some ⟨w4.heap.size, 0, none⟩) 1 1, [(⟨#[104, 116, 116, 112, 58, 47, 47, 112, 117, 114, 108, 46, 111, 114, 103, 47, 114, 115, 115, 47, 49, 46, 48, 47, 109, 111, 100, 117, 108, 101, 115, 47, 99, 111, 110, 116, 101, 110, 116, 47]⟩, ⟨#[101, 110, 99, 111, 100, 101, 100]⟩)]), (.slice a6 1 c6, [plN ⟨#[100, 101, 115, 99, 114, 105, 112, 116, 105, 111, 110]⟩]), (.slice (some ⟨w7.heap.size, 0, none⟩) 1 1, [(spC, ⟨#[100, 101, 115, 99, 114, 105, 112, 116, 105, 111, 110]⟩)]), (.slice a8 1 c8, [plN ⟨#[115, 117, 109, 109, 97, 114, 121]⟩])] := rows_lit (H8.a (.slice (some ⟨w4.heap.size, 0, none⟩) 1 1, _) (.tail _ (.tail _ (.tail _ (.head _))))).reads (H8.a (_, _) (.tail _ (.tail _ (.head _)))).reads (H8.a (.slice (some ⟨w7.heap.size, 0, none⟩) 1 1, _) (.tail _ (.head _))).reads (H8.a (_, _) (.head _)).reads
  have H9 := H8.alloc (.cells #[.slice (some ⟨w4.heap.size, 0, none⟩) 1 1, .slice a6 1 c6, .slice (some ⟨w7.heap.size, 0, none⟩) 1 1, .slice a8 1 c8] 38)
  clear hs7 hown8 hb8 H7 H6 hb7 H8
  go_wp2_with fail
  generalize w8.alloc (.cells #[.slice (some ⟨w4.heap.size, 0, none⟩) 1 1, .slice a6 1 c6, .slice (some ⟨w7.heap.size, 0, none⟩) 1 1, .slice a8 1 c8] 38) = x9 at H9 hS ⊢
  have HC : Calls Try.prog 119 #[.slice (some ⟨w8.heap.size, 0, none⟩) 4 4] x9 fun r w' => ∃ a c, r = .returned (.slice a 4 c) ∧ OwnN x9.heap.size w' (.slice a 4 c) [(⟨#[104, 116, 116, 112, 58, 47, 47, 112, 117, 114, 108, 46, 111, 114, 103, 47, 114, 115, 115, 47, 49, 46, 48, 47, 109, 111, 100, 117, 108, 101, 115, 47, 99, 111, 110, 116, 101, 110, 116, 47]⟩, ⟨#[101, 110, 99, 111, 100, 101, 100]⟩), plN ⟨#[100, 101, 115, 99, 114, 105, 112, 116, 105, 111, 110]⟩, (spC, ⟨#[100, 101, 115, 99, 114, 105, 112, 116, 105, 111, 110]⟩), plN ⟨#[115, 117, 109, 109, 97, 114, 121]⟩] ∧ Below x9.heap.size x9 w' := concat_names _ _ _ hS (by simp) (show 0 < 4 by decide) (show 4 ≤ 1000 by decide)
  clear hS
  refine HC.mono ?_
  rintro r w10 ⟨a10, c10, rfl, hown10, hb10⟩
  have H10 := ((H9.up hb10).push (hown10.mono H9.b.size)).alloc (.cells #[.string ⟨#[112, 117, 98, 68, 97, 116, 101]⟩] 9)
  have hs10 := strs_lit w10 #[.string ⟨#[112, 117, 98, 68, 97, 116, 101]⟩] [⟨#[112, 117, 98, 68, 97, 116, 101]⟩] 1 rfl rfl
  clear HC H9 hown10 hb10
  go_wp2_with fail
  generalize w10.alloc (.cells #[.string ⟨#[112, 117, 98, 68, 97, 116, 101]⟩] 9) = x10 at H10 hs10 ⊢
  refine (rss_plain _ _ _ hs10 (by decide)).mono ?_
  rintro r w11 ⟨a11, c11, rfl, hown11, hb11⟩
  go_wp2_with fail
  refine (rss_core _ _).mono ?_
  rintro r w12 ⟨rfl, hb12⟩
  obtain ⟨a13, c13, w13, hrun13, H13⟩ := H10.app hown11 hb11 hb12 (spC, ⟨#[100, 97, 116, 101]⟩) (by decide)
  have HR13 := Lib.hid hrun13
  have HH := Lib.hid H13
  clear hrun13 hown11 hb11 hb12 hs10 H10 H13
  have hC : ∀ b : Bool, (b = true ↔ fmt = 2) → ItS w (w13.alloc (.cells #[.slice (some ⟨w1.heap.size, 0, none⟩) 1 1, .slice a4 2 c4, .slice a10 4 c10, .slice a13 2 c13, .bool b] 102)) w13.heap.size (.slice (some ⟨w1.heap.size, 0, none⟩) 1 1) (.slice a4 2 c4) (.slice a10 4 c10) (.slice a13 2 c13) { itemF fmt with id := [(spC, ⟨#[105, 100, 101, 110, 116, 105, 102, 105, 101, 114]⟩)] } := by
    intro b hb
    have h1 := HH.out.alloc (.cells #[.slice (some ⟨w1.heap.size, 0, none⟩) 1 1, .slice a4 2 c4, .slice a10 4 c10, .slice a13 2 c13, .bool b] 102)
    have hlt := HH.out.lt
    have hab : (itemF fmt).about = b := by
      show decide (fmt = 2) = b
      cases b <;> simp at hb ⊢ <;> omega
    refine ⟨h1.b, h1.r, ?_, by omega, ?_, ?_, ?_, ?_⟩
    · show RowAt _ _ _ #[_, _, _, _, .bool (itemF fmt).about]
      rw [hab]
      exact RowAt.new w13 _ _
    · exact h1.a (.slice (some ⟨w1.heap.size, 0, none⟩) 1 1, _) (.tail _ (.tail _ (.tail _ (.tail _ (.tail _ (.tail _ (.tail _ (.head _))))))))
    · exact h1.a (.slice a4 2 c4, _) (.tail _ (.tail _ (.tail _ (.tail _ (.tail _ (.tail _ (.head _)))))))
    · exact h1.a (.slice a10 4 c10, _) (.tail _ (.head _))
    · exact h1.a (.slice a13 2 c13, _) (.head _)
  rcases hfmt with rfl | rfl
  · have hI := hC false (by decide)
    go_wp2_with (at_builtin; refine wpList_append_run rfl _ _ _ _ rfl _ _ rfl rfl _ _ HR13.out ?_)
    clear hC HH
    generalize w13.alloc (.cells #[.slice (some ⟨w1.heap.size, 0, none⟩) 1 1, .slice a4 2 c4, .slice a10 4 c10, .slice a13 2 c13, .bool false] 102) = x14 at hI ⊢
    have hlt := hI.r3.lt
    obtain ⟨X, hX⟩ : ∃ X, (x14.alloc (.cells #[.string ⟨#[103, 117, 105, 100]⟩] 9)).drew = X := ⟨_, rfl⟩
    have hbX : Below x14.heap.size x14 X := by rw [← hX]; exact ((Below.refl _ x14).alloc (Nat.le_refl _) _).drew
    have hsX : StrsAt X (.slice (some ⟨x14.heap.size, 0, none⟩) 1 1) [⟨#[103, 117, 105, 100]⟩] := by rw [← hX]; exact (strs_lit x14 #[.string ⟨#[103, 117, 105, 100]⟩] [⟨#[103, 117, 105, 100]⟩] 1 rfl rfl).below (Below.refl _ _).drew
    have hIX := hI.up hbX
    have HP := rss_plain _ _ _ hsX (by decide)
    have RND := Lib.hid (fun (w15 : World) (a15 : Option Addr) (c15 : Nat) (hown : OwnN X.heap.size w15 (.slice a15 1 c15) [plN ⟨#[103, 117, 105, 100]⟩]) (hb : Below X.heap.size X w15) => (show ∃ a16 c16 w16, w15.cell? ⟨w13.heap.size, 0, none⟩ = some (.slice (some ⟨w1.heap.size, 0, none⟩) 1 1) ∧ Sem.run Try.prog (AppV #[38, 38] 38 #[.slice a15 1 c15, .slice (some ⟨w1.heap.size, 0, none⟩) 1 1]) w15 = .ok (.slice a16 2 c16) w16 ∧
      w16.cell? ⟨w13.heap.size, 0, none⟩ = some (.slice (some ⟨w1.heap.size, 0, none⟩) 1 1) ∧ w16.frozen? ⟨w13.heap.size, 0, none⟩ = false ∧ ItS w (w16.setCell ⟨w13.heap.size, 0, none⟩ (.slice a16 2 c16)) w13.heap.size (.slice a16 2 c16) (.slice a4 2 c4) (.slice a10 4 c10) (.slice a13 2 c13) (itemF 1) from by
        have h15 := hIX.up hb
        obtain ⟨a16, c16, w16, k1, k2, k3⟩ := hown.app h15.o1.reads hb.size (by decide)
        have hB : Below X.heap.size X w16 := hb.trans k3
        have h16 := hIX.up hB
        exact ⟨a16, c16, w16, h15.r3.blk.cell 0 rfl, k1, h16.r3.blk.cell 0 rfl, h16.r3.blk.free 0, h16.ids (k2.mono hIX.b.size)⟩))
    have m0 : X.cell? ⟨w13.heap.size, 0, none⟩ = some (.slice (some ⟨w1.heap.size, 0, none⟩) 1 1) := hIX.r3.blk.cell 0 rfl
    have m1 : x14.cell? ⟨w13.heap.size, 0, none⟩ = some (.slice (some ⟨w1.heap.size, 0, none⟩) 1 1) := hI.r3.blk.cell 0 rfl
    have HPH := Lib.hid (show Calls Try.prog 117 #[.slice (some ⟨x14.heap.size, 0, none⟩) 1 1] (x14.alloc (.cells #[.string ⟨#[103, 117, 105, 100]⟩] 9)).drew fun r w' => ∃ a c, r = .returned (.slice a 1 c) ∧ OwnN X.heap.size w' (.slice a 1 c) [plN ⟨#[103, 117, 105, 100]⟩] ∧ Below X.heap.size X w' by rw [hX]; exact HP)
    clear HP hsX hbX hI hX hIX
    go_region_with (go_at_call 117; refine (HPH.out).mono ?_; rintro r w15 ⟨a15, c15, rfl, hown15, hb15⟩; obtain ⟨a16, c16, w16, e0, HR, e1, e2, HI16⟩ := RND.out w15 a15 c15 hown15 hb15; clear hown15 hb15)
    all_goals
      clear e0 e1 e2 HR RND HPH m0 m1
      generalize w16.setCell ⟨w13.heap.size, 0, none⟩ (.slice a16 2 c16) = w17 at HI16 ⊢
      have n0 : w17.cell? ⟨w13.heap.size, 0, none⟩ = some (.slice a16 2 c16) := HI16.r3.blk.cell 0 rfl
      have n1 : w17.cell? ⟨w13.heap.size, 1, none⟩ = some (.slice a4 2 c4) := HI16.r3.blk.cell 1 rfl
      have n2 : w17.cell? ⟨w13.heap.size, 2, none⟩ = some (.slice a10 4 c10) := HI16.r3.blk.cell 2 rfl
      have n3 : w17.cell? ⟨w13.heap.size, 3, none⟩ = some (.slice a13 2 c13) := HI16.r3.blk.cell 3 rfl
      have n4 : w17.cell? ⟨w13.heap.size, 4, none⟩ = some (.bool false) := HI16.r3.blk.cell 4 rfl
      have z0 : w17.cell? ⟨w.heap.size, 0, none⟩ = some (.slice none 0 0) := HI16.r.blk.cell 0 rfl
      have z1 : w17.cell? ⟨w.heap.size, 1, none⟩ = some (.slice none 0 0) := HI16.r.blk.cell 1 rfl
      have z2 : w17.cell? ⟨w.heap.size, 2, none⟩ = some (.slice none 0 0) := HI16.r.blk.cell 2 rfl
      have z3 : w17.cell? ⟨w.heap.size, 3, none⟩ = some (.slice none 0 0) := HI16.r.blk.cell 3 rfl
      have z4 : w17.cell? ⟨w.heap.size, 4, none⟩ = some (.bool false) := HI16.r.blk.cell 4 rfl
      have f0 : w17.frozen? ⟨w.heap.size, 0, none⟩ = false := HI16.r.blk.free 0
      have f1 : w17.frozen? ⟨w.heap.size, 1, none⟩ = false := HI16.r.blk.free 1
      have f2 : w17.frozen? ⟨w.heap.size, 2, none⟩ = false := HI16.r.blk.free 2
      have f3 : w17.frozen? ⟨w.heap.size, 3, none⟩ = false := HI16.r.blk.free 3
      have f4 : w17.frozen? ⟨w.heap.size, 4, none⟩ = false := HI16.r.blk.free 4
      have HIH := Lib.hid HI16
      clear HI16
      go_wp2_with fail
      obtain ⟨g1, g2, g3⟩ := HIH.out.fin
      exact bodyPost_ret (results_cell1 rfl _ _ _ _ _ rfl g1.blk Try.underlying102 rfl (by kernel_rfl)) rfl ⟨_, rfl, g2, g3⟩
  · have HI := Lib.hid (hC true (by decide))
    have n0 : (w13.alloc (.cells #[.slice (some ⟨w1.heap.size, 0, none⟩) 1 1, .slice a4 2 c4, .slice a10 4 c10, .slice a13 2 c13, .bool true] 102)).cell? ⟨w13.heap.size, 0, none⟩ = some (.slice (some ⟨w1.heap.size, 0, none⟩) 1 1) := HI.out.r3.blk.cell 0 rfl
    have n1 : (w13.alloc (.cells #[.slice (some ⟨w1.heap.size, 0, none⟩) 1 1, .slice a4 2 c4, .slice a10 4 c10, .slice a13 2 c13, .bool true] 102)).cell? ⟨w13.heap.size, 1, none⟩ = some (.slice a4 2 c4) := HI.out.r3.blk.cell 1 rfl
    have n2 : (w13.alloc (.cells #[.slice (some ⟨w1.heap.size, 0, none⟩) 1 1, .slice a4 2 c4, .slice a10 4 c10, .slice a13 2 c13, .bool true] 102)).cell? ⟨w13.heap.size, 2, none⟩ = some (.slice a10 4 c10) := HI.out.r3.blk.cell 2 rfl
    have n3 : (w13.alloc (.cells #[.slice (some ⟨w1.heap.size, 0, none⟩) 1 1, .slice a4 2 c4, .slice a10 4 c10, .slice a13 2 c13, .bool true] 102)).cell? ⟨w13.heap.size, 3, none⟩ = some (.slice a13 2 c13) := HI.out.r3.blk.cell 3 rfl
    have n4 : (w13.alloc (.cells #[.slice (some ⟨w1.heap.size, 0, none⟩) 1 1, .slice a4 2 c4, .slice a10 4 c10, .slice a13 2 c13, .bool true] 102)).cell? ⟨w13.heap.size, 4, none⟩ = some (.bool true) := HI.out.r3.blk.cell 4 rfl
    have z0 : (w13.alloc (.cells #[.slice (some ⟨w1.heap.size, 0, none⟩) 1 1, .slice a4 2 c4, .slice a10 4 c10, .slice a13 2 c13, .bool true] 102)).cell? ⟨w.heap.size, 0, none⟩ = some (.slice none 0 0) := HI.out.r.blk.cell 0 rfl
    have z1 : (w13.alloc (.cells #[.slice (some ⟨w1.heap.size, 0, none⟩) 1 1, .slice a4 2 c4, .slice a10 4 c10, .slice a13 2 c13, .bool true] 102)).cell? ⟨w.heap.size, 1, none⟩ = some (.slice none 0 0) := HI.out.r.blk.cell 1 rfl
    have z2 : (w13.alloc (.cells #[.slice (some ⟨w1.heap.size, 0, none⟩) 1 1, .slice a4 2 c4, .slice a10 4 c10, .slice a13 2 c13, .bool true] 102)).cell? ⟨w.heap.size, 2, none⟩ = some (.slice none 0 0) := HI.out.r.blk.cell 2 rfl
    have z3 : (w13.alloc (.cells #[.slice (some ⟨w1.heap.size, 0, none⟩) 1 1, .slice a4 2 c4, .slice a10 4 c10, .slice a13 2 c13, .bool true] 102)).cell? ⟨w.heap.size, 3, none⟩ = some (.slice none 0 0) := HI.out.r.blk.cell 3 rfl
    have z4 : (w13.alloc (.cells #[.slice (some ⟨w1.heap.size, 0, none⟩) 1 1, .slice a4 2 c4, .slice a10 4 c10, .slice a13 2 c13, .bool true] 102)).cell? ⟨w.heap.size, 4, none⟩ = some (.bool false) := HI.out.r.blk.cell 4 rfl
    have f0 : (w13.alloc (.cells #[.slice (some ⟨w1.heap.size, 0, none⟩) 1 1, .slice a4 2 c4, .slice a10 4 c10, .slice a13 2 c13, .bool true] 102)).frozen? ⟨w.heap.size, 0, none⟩ = false := HI.out.r.blk.free 0
    have f1 : (w13.alloc (.cells #[.slice (some ⟨w1.heap.size, 0, none⟩) 1 1, .slice a4 2 c4, .slice a10 4 c10, .slice a13 2 c13, .bool true] 102)).frozen? ⟨w.heap.size, 1, none⟩ = false := HI.out.r.blk.free 1
    have f2 : (w13.alloc (.cells #[.slice (some ⟨w1.heap.size, 0, none⟩) 1 1, .slice a4 2 c4, .slice a10 4 c10, .slice a13 2 c13, .bool true] 102)).frozen? ⟨w.heap.size, 2, none⟩ = false := HI.out.r.blk.free 2
    have f3 : (w13.alloc (.cells #[.slice (some ⟨w1.heap.size, 0, none⟩) 1 1, .slice a4 2 c4, .slice a10 4 c10, .slice a13 2 c13, .bool true] 102)).frozen? ⟨w.heap.size, 3, none⟩ = false := HI.out.r.blk.free 3
    have f4 : (w13.alloc (.cells #[.slice (some ⟨w1.heap.size, 0, none⟩) 1 1, .slice a4 2 c4, .slice a10 4 c10, .slice a13 2 c13, .bool true] 102)).frozen? ⟨w.heap.size, 4, none⟩ = false := HI.out.r.blk.free 4
    clear hC HH
    go_wp2_with (at_builtin; refine wpList_append_run rfl _ _ _ _ rfl _ _ rfl rfl _ _ HR13.out ?_)
    obtain ⟨g1, g2, g3⟩ := HI.out.fin
    exact bodyPost_ret (results_cell1 rfl _ _ _ _ _ rfl g1.blk Try.underlying102 rfl (by kernel_rfl)) rfl ⟨_, rfl, g2, g3⟩
end Go.Proofs.Yteefopeclfojiaa
