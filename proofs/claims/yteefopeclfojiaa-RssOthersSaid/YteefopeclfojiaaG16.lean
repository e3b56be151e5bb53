/-
  Parts RsT RsU RsV of this seat's texts, in one file: contracts of functions that the law reaches, and the plain laws behind them. No condition.
-/
import Derived.Test.YteefopeclfojiaaG14
import Derived.Test.YteefopeclfojiaaG11
import Derived.Sort.QuietTacIn
import Derived.Test.YteefopeclfojiaaG15
/- 
  Layer 23 in plain terms: what is found of a tree.
 -/
namespace Go.Proofs.Yteefopeclfojiaa
open Go.RowKit
/-- the children of a name. -/
def namT (F : Fo) (nm : NmT) : List KidT := F.kids.filter fun T => namedB T.1 nm
def fldT (F : Fo) (nm : NmT) : Option ByteArray := (namT F nm).findSome? fun T => gdB (strOfNums T.2.2.tx)
def fieldT (F : Fo) (ns : List NmT) : ByteArray × Int := fieldF (fldT F) ns 0
def foundT (T : KidT) (FF : FormT) : Itm := foundF (fieldT T.2.2) (attF T.2.1 aboutN) FF
def itemsT (F : Fo) (f : Int) : List Itm := (namT F itN).map fun T => foundT T (itemF f)
def feedT (T : KidT) : RawT := if kindR T.1 = 0 then rawNone else ⟨kindR T.1,
  match (namT T.2.2 chanN).head? with
  | none => Itm.none
  | some C => foundT C headF,
  (match (namT T.2.2 chanN).head? with
  | none => []
  | some C => if kindR T.1 = 1 then itemsT C.2.2 (kindR T.1) else []) ++ itemsT T.2.2 (kindR T.1)⟩
theorem Both.and {α β : Type} {R : α → β → Prop} {P : β → Prop} {l : List α} {m : List β} (h : Both R l m) (hp : ∀ b ∈ m, P b) : Both (fun a b => R a b ∧ P b) l m := by
  induction h with
  | nil => exact .nil
  | cons hr _ ih => exact .cons ⟨hr, hp _ (List.mem_cons_self ..)⟩ (ih fun b hb => hp b (List.mem_cons_of_mem _ hb))
theorem wf_kids : ∀ {F : Fo} {p : Bool}, Wf p F → ∀ U ∈ F.kids, WfT U
  | .nil, _, _, U, h => by simp [Fo.kids] at h
  | .txt _ r, _, hw, U, h => wf_kids (F := r) hw.2.2 U h
  | .elt n a ks r, _, hw, U, h => by
    rcases List.mem_cons.1 h with rfl | h
    · exact ⟨hw.1, hw.2.1, hw.2.2.1⟩
    · exact wf_kids hw.2.2.2 U h
section
variable {es : List Evt} {g : Gr} {p : Nat} {T : KidT}
theorem OnT.namR (hG : growP es = some g) (h : OnT es (endO g) p T) (nm : NmT) : Both (OnT es (endO g)) (namedR es p nm) (namT T.2.2 nm) := by
  unfold namedR namT
  rw [h.kids hG]
  exact h.both.filter fun a b hab => nmK_of hab.get nm
theorem OnT.fld (hG : growP es = some g) (h : OnT es (endO g) 0 T) (nm : NmT) : fldK es nm = fldT T.2.2 nm := by
  unfold fldK fldT
  exact (h.namR hG nm).findSome fun a b hab => by rw [hab.text hG]
theorem OnT.field (hG : growP es = some g) (h : OnT es (endO g) 0 T) (ns : List NmT) : fieldP es ns = fieldT T.2.2 ns := by
  unfold fieldP fieldT
  rw [show fldK es = fldT T.2.2 from funext fun nm => h.fld hG nm]
theorem OnT.found (hG : growP es = some g) (h : OnT es (endO g) 0 T) (FF : FormT) : foundP es FF = foundT T FF := by
  unfold foundP foundT
  rw [show fieldP es = fieldT T.2.2 from funext fun ns => h.field hG ns]
  have ha := h.attr hG aboutN
  rw [show ((0 : Nat) : Int) = 0 from rfl] at ha
  rw [ha]
theorem found_flT (T : KidT) (hw : WfT T) (FF : FormT) : foundP (flT T) FF = foundT T FF := by
  obtain ⟨g, hG, h⟩ := tree_whole T hw
  exact h.found hG FF
theorem OnT.items (hG : growP es = some g) (h : OnT es (endO g) p T) (hw : Wf false T.2.2) (f : Int) : itemsP es p f = itemsT T.2.2 f := by
  unfold itemsP itemsT
  have hb := (h.namR hG itN).and (P := WfT) fun U hU => wf_kids hw U ((List.mem_filter.1 hU).1)
  exact hb.map fun a b hab => by rw [hab.1.part hG, found_flT b hab.2]
theorem feed_T (hG : growP es = some g) (h : OnT es (endO g) 0 T) (hw : WfT T) : feedR es = feedT T ∧ kindP es = kindR T.1 := by
  have hk : kindP es = kindR T.1 := by
    unfold kindP
    rw [hG, h.get]
    rfl
  refine ⟨?_, hk⟩
  have hb := ((h.namR hG chanN).and (P := WfT) fun U hU => wf_kids hw.2.2 U ((List.mem_filter.1 hU).1)).head
  have hi := h.items hG hw.2.2 (kindR T.1)
  rw [show ((0 : Nat) : Int) = 0 from rfl] at hb
  unfold feedR feedT
  rw [hk]
  by_cases h0 : kindR T.1 = 0
  · rw [if_pos h0, if_pos h0]
  · rw [if_neg h0, if_neg h0]
    generalize (namedR es 0 chanN).head? = o at hb ⊢
    generalize (namT T.2.2 chanN).head? = q at hb ⊢
    cases hb with
    | none => rw [hi]
    | some hab =>
      obtain ⟨h1, h2⟩ := hab
      simp only
      rw [hi, h1.part hG, found_flT _ h2, h1.items hG h2.2.2]
end
theorem feed_flT23 (T : KidT) (hw : WfT T) : feedR (flT T) = feedT T ∧ kindP (flT T) = kindR T.1 := by
  obtain ⟨g, hG, h⟩ := tree_whole T hw
  exact feed_T hG h hw
def encdN : NmT := (spCon, ⟨#[101, 110, 99, 111, 100, 101, 100]⟩)
def descN : NmT := plN ⟨#[100, 101, 115, 99, 114, 105, 112, 116, 105, 111, 110]⟩
def rssN : NmT := plN ⟨#[114, 115, 115]⟩
/-- the document's example. -/
def docT (a b : ByteArray) : KidT := (rssN, [], .elt chanN [] (.elt itN [] (.elt descN [] (.txt a .nil) (.elt encdN [] (.txt b .nil) .nil)) .nil) .nil)
theorem docT_wf1 : WfT (docT ⟨#[97]⟩ ⟨#[98]⟩) := ⟨by decide +kernel, by decide +kernel, by decide +kernel, by decide +kernel, ⟨by decide +kernel, by decide +kernel, ⟨by decide +kernel, by decide +kernel, ⟨rfl, by decide +kernel, trivial⟩, by decide +kernel, by decide +kernel, ⟨rfl, by decide +kernel, trivial⟩, trivial⟩, trivial⟩, trivial⟩
theorem docT_wf2 : WfT (docT ⟨#[97]⟩ ⟨#[32]⟩) := ⟨by decide +kernel, by decide +kernel, by decide +kernel, by decide +kernel, ⟨by decide +kernel, by decide +kernel, ⟨by decide +kernel, by decide +kernel, ⟨rfl, by decide +kernel, trivial⟩, by decide +kernel, by decide +kernel, ⟨rfl, by decide +kernel, trivial⟩, trivial⟩, trivial⟩, trivial⟩
theorem docT_feed1 : feedT (docT ⟨#[97]⟩ ⟨#[98]⟩) = ⟨1, Itm.none, [⟨⟨#[]⟩, ⟨#[]⟩, ⟨#[]⟩, ⟨#[]⟩, ⟨#[98]⟩, ⟨#[]⟩, 0⟩]⟩ := by kernel_rfl
theorem docT_feed2 : feedT (docT ⟨#[97]⟩ ⟨#[32]⟩) = ⟨1, Itm.none, [⟨⟨#[]⟩, ⟨#[]⟩, ⟨#[]⟩, ⟨#[]⟩, ⟨#[97]⟩, ⟨#[]⟩, 0⟩]⟩ := by kernel_rfl
end Go.Proofs.Yteefopeclfojiaa
/- 
  Layer 23: the walk of the law's doc: a feed of one item.
 -/
namespace Go.Proofs.Yteefopeclfojiaa
open Go.RowKit Go.Sort
/-- events without attributes, three of them, written out. -/
theorem atsK3 (w : World) (e1 e2 e3 : Evt) (h1 : e1.at_ = []) (h2 : e2.at_ = []) (h3 : e3.at_ = []) : AtsK w [e1, e2, e3] [.slice none 0 0, .slice none 0 0, .slice none 0 0] := ⟨.inl ⟨h1, rfl⟩, .inl ⟨h2, rfl⟩, .inl ⟨h3, rfl⟩, trivial⟩
theorem lit3 (w : World) (e1 e2 e3 : Evt) (C : Array Value) (hC : C.toList = evsC [e1, e2, e3] [.slice none 0 0, .slice none 0 0, .slice none 0 0]) (h1 : e1.at_ = []) (h2 : e2.at_ = []) (h3 : e3.at_ = []) : OwnK w.heap.size (w.alloc (.cells C 30)) (.slice (some ⟨w.heap.size, 0, none⟩) 3 3) [e1, e2, e3] :=
  OwnK.lit [.slice none 0 0, .slice none 0 0, .slice none 0 0] C hC (atsK3 w e1 e2 e3 h1 h2 h3) 3 rfl (by decide)
theorem OwnK.nlen {base : Nat} {w : World} {a : Option Addr} {n c : Nat} {es : List Evt} (h : OwnK base w (.slice a n c) es) : n = es.length := by
  obtain ⟨avs, h1, -⟩ := h
  rcases h1.2 with ⟨h2, h3⟩ | ⟨g, cap, cur, h2, -⟩
  · injection h2 with _ h4
    omega
  · injection h2
theorem OwnK.mono {base base' : Nat} {w : World} {v : Value} {es : List Evt} (h : OwnK base' w v es) (hb : base ≤ base') : OwnK base w v es := by
  obtain ⟨avs, ⟨h1, h2⟩, h3⟩ := h
  refine ⟨avs, ⟨h1, ?_⟩, h3⟩
  rcases h2 with h2 | ⟨g, cap, cur, rfl, h4, h5⟩
  · exact .inl h2
  · exact .inr ⟨g, cap, cur, rfl, by omega, h5⟩
/-- 'append(l, e1, e2, e3)'. -/
theorem OwnK.app3 {base : Nat} {w : World} {v : Value} {es : List Evt} (h : OwnK base w v es) (hbase : base ≤ w.heap.size) (e1 e2 e3 : Evt) (C : Array Value) (hC : C.toList = evsC [e1, e2, e3] [.slice none 0 0, .slice none 0 0, .slice none 0 0]) (h1 : e1.at_ = []) (h2 : e2.at_ = []) (h3 : e3.at_ = []) (n : Nat) (hn : es.length + 3 = n) (hm : n ≤ 1000) :
    ∃ a c w', (Builtin.append_ #[22, 22] 22 #[v, .slice (some ⟨w.heap.size, 0, none⟩) 3 3]).run Try.prog (w.alloc (.cells C 30)) = .ok (.slice a n c) w' ∧ OwnK base w' (.slice a n c) (es ++ [e1, e2, e3]) ∧ Below base w w' := by
  have hl := lit3 w e1 e2 e3 C hC h1 h2 h3
  obtain ⟨a, m, c, w', k1, k2, k3⟩ := (h.alloc (.cells C 30)).app hl (List.cons_ne_nil _ _) (by simp; omega) (by simp; omega)
  have hmn : m = n := by rw [k2.nlen, List.length_append]; exact hn
  subst hmn
  exact ⟨a, c, w', k1, k2, ((Below.refl base w).alloc hbase _).trans k3⟩
attribute [local go_sem ↓] app_veil
set_option maxRecDepth 100000 in
set_option maxHeartbeats 8000000 in
theorem law23_doc (a b : ByteArray) (w : World) :
    Calls Try.prog 81 #[.string a, .string b] w fun r w' => ∃ x c, r = .returned (.slice x 12 c) ∧ OwnK w.heap.size w' (.slice x 12 c) (flT (docT a b)) ∧ Below w.heap.size w w' := by
  go_enter Try.func81, Try.ntmps81
  go_wp2_with fail
  refine (law23_plain ⟨#[114, 115, 115]⟩ w).mono ?_
  rintro r w1 ⟨rfl, hb1⟩
  have n1 := RowAt.new w1 #[.string ⟨#[]⟩, .string ⟨#[114, 115, 115]⟩] 24
  have hb2 : Below w.heap.size w (w1.alloc (.cells #[.string ⟨#[]⟩, .string ⟨#[114, 115, 115]⟩] 24)) := bt hb1 ((Below.refl _ w1).alloc (Nat.le_refl _) _)
  have hq : w.heap.size ≤ w1.heap.size := hb1.size
  go_wp2_with fail
  generalize w1.alloc (.cells #[.string ⟨#[]⟩, .string ⟨#[114, 115, 115]⟩] 24) = w2 at n1 hb2 ⊢
  obtain ⟨q, hqq⟩ : ∃ q, w1.heap.size = q := ⟨_, rfl⟩
  rw [hqq] at n1 hq ⊢
  clear hb1 hqq
  have k0 := cell_regrown (show w2.cell? ⟨q, 0, none⟩ = some (.string ⟨#[]⟩) from n1.blk.cell 0 rfl)
  have k1 := cell_regrown (show w2.cell? ⟨q, 1, none⟩ = some (.string ⟨#[114, 115, 115]⟩) from n1.blk.cell 1 rfl)
  have cC := fun (d : Nat) (os : Array Obj) => CallsIn.regrown_of (callsIn_wide (n := 5).2 (law23_plain ⟨#[99, 104, 97, 110, 110, 101, 108]⟩ (grow (redrawn w2 d) os)))
  have cI := fun (d : Nat) (os : Array Obj) => CallsIn.regrown_of (callsIn_wide (n := 5).2 (law23_plain ⟨#[105, 116, 101, 109]⟩ (grow (redrawn w2 d) os)))
  refine (wpIn_wide (n := 6)).1 ?_
  refine wpIn_region_below_tail 6 (by kernel_rfl) (by kernel_rfl) (by kernel_rfl) ?_
  simp only [List.take_succ_cons, List.take_zero, List.drop_succ_cons, List.drop_zero]
  iterate 2 (refine wpQuietIn_step (askedR (fun _ => trivial)) (fun K hK => ?_); go_simp; refine hK _ ?_; clear hK K)
  refine wpQuietIn_step (askedR (fun _ => trivial)) (fun K hK => ?_)
  go_simp
  apply Exists.intro
  refine ⟨fun _ => cC _ _, hK _ ?_⟩
  clear hK K cC
  refine wpQuietIn_step (askedR (fun _ => trivial)) (fun K hK => ?_); go_simp; refine hK _ ?_; clear hK K
  refine wpQuietIn_step (askedR (fun _ => trivial)) (fun K hK => ?_)
  go_simp
  apply Exists.intro
  refine ⟨fun _ => cI _ _, hK _ ?_⟩
  clear hK K cI
  refine wpQuietIn_step (askedR (fun _ => trivial)) (fun K hK => ?_); go_simp; refine hK _ ?_; clear hK K
  clear k0 k1
  refine wpQuietIn_nil ?_
  rintro w3 ⟨⟨dq, osq⟩, hw3⟩
  have hb23 : Below w2.heap.size w2 w3 := by rw [hw3]; exact below_regrown w2 dq osq
  clear hw3
  have n3 := n1.below hb23 n1.lt
  have hb3 := bt hb2 hb23
  have o3 := lit3 w3 (evS rssN []) (evS chanN []) (evS itN []) #[.int .i8 0, .string ⟨#[]⟩, .string ⟨#[114, 115, 115]⟩, .slice none 0 0, .string ⟨#[]⟩, .int .i8 0, .string ⟨#[]⟩, .string ⟨#[99, 104, 97, 110, 110, 101, 108]⟩, .slice none 0 0, .string ⟨#[]⟩, .int .i8 0, .string ⟨#[]⟩, .string ⟨#[105, 116, 101, 109]⟩, .slice none 0 0, .string ⟨#[]⟩] rfl rfl rfl rfl
  clear n1 hb2 hb23
  gi_wp2_with fail
  have h34 := (Below.refl w3.heap.size w3).alloc (Nat.le_refl _) (.cells #[.int .i8 0, .string ⟨#[]⟩, .string ⟨#[114, 115, 115]⟩, .slice none 0 0, .string ⟨#[]⟩, .int .i8 0, .string ⟨#[]⟩, .string ⟨#[99, 104, 97, 110, 110, 101, 108]⟩, .slice none 0 0, .string ⟨#[]⟩, .int .i8 0, .string ⟨#[]⟩, .string ⟨#[105, 116, 101, 109]⟩, .slice none 0 0, .string ⟨#[]⟩] 30)
  have n4 := n3.below h34 n3.lt
  have hb4 := bt hb3 h34
  have hs4 : w3.heap.size ≤ (w3.alloc (.cells #[.int .i8 0, .string ⟨#[]⟩, .string ⟨#[114, 115, 115]⟩, .slice none 0 0, .string ⟨#[]⟩, .int .i8 0, .string ⟨#[]⟩, .string ⟨#[99, 104, 97, 110, 110, 101, 108]⟩, .slice none 0 0, .string ⟨#[]⟩, .int .i8 0, .string ⟨#[]⟩, .string ⟨#[105, 116, 101, 109]⟩, .slice none 0 0, .string ⟨#[]⟩] 30)).heap.size := h34.size
  generalize w3.alloc (.cells #[.int .i8 0, .string ⟨#[]⟩, .string ⟨#[114, 115, 115]⟩, .slice none 0 0, .string ⟨#[]⟩, .int .i8 0, .string ⟨#[]⟩, .string ⟨#[99, 104, 97, 110, 110, 101, 108]⟩, .slice none 0 0, .string ⟨#[]⟩, .int .i8 0, .string ⟨#[]⟩, .string ⟨#[105, 116, 101, 109]⟩, .slice none 0 0, .string ⟨#[]⟩] 30) = w4 at o3 n4 hb4 hs4 ⊢
  have hq3 := n3.lt
  have hw3 := hb3.size
  obtain ⟨bs, hbs⟩ : ∃ x, w3.heap.size = x := ⟨_, rfl⟩
  rw [hbs] at o3 hs4 hq3 hw3 ⊢
  clear h34 n3 hbs hb3
  go_wp2_with fail
  refine (law23_plain ⟨#[100, 101, 115, 99, 114, 105, 112, 116, 105, 111, 110]⟩ w4).mono ?_
  rintro r w5 ⟨rfl, hb45⟩
  go_wp2_with fail
  refine (law23_plain ⟨#[100, 101, 115, 99, 114, 105, 112, 116, 105, 111, 110]⟩ w5).mono ?_
  rintro r w6 ⟨rfl, hb56⟩
  have h46 := bt hb45 hb56
  obtain ⟨a7, c7, w7, hrun7, o7, hb67⟩ := (o3.below h46).app3 (Nat.le_trans hs4 h46.size) (evS descN []) (evT a) (evE descN) #[.int .i8 0, .string ⟨#[]⟩, .string ⟨#[100, 101, 115, 99, 114, 105, 112, 116, 105, 111, 110]⟩, .slice none 0 0, .string ⟨#[]⟩, .int .i8 2, .string ⟨#[]⟩, .string ⟨#[]⟩, .slice none 0 0, .string a, .int .i8 1, .string ⟨#[]⟩, .string ⟨#[100, 101, 115, 99, 114, 105, 112, 116, 105, 111, 110]⟩, .slice none 0 0, .string ⟨#[]⟩] rfl rfl rfl rfl 6 rfl (by decide)
  have HR7 := Lib.hid hrun7
  have hb7 := (bt hb4 h46).trans (hb67.mono hw3)
  have n7 := (n4.below h46 n4.lt).below hb67 hq3
  have hs7 : bs ≤ w7.heap.size := Nat.le_trans hs4 (Nat.le_trans h46.size hb67.size)
  clear hrun7 hb45 hb56 h46 hb67 o3 n4 hb4 hs4
  have h78 := (Below.refl w7.heap.size w7).alloc (Nat.le_refl _) (.cells #[.string ⟨#[104, 116, 116, 112, 58, 47, 47, 112, 117, 114, 108, 46, 111, 114, 103, 47, 114, 115, 115, 47, 49, 46, 48, 47, 109, 111, 100, 117, 108, 101, 115, 47, 99, 111, 110, 116, 101, 110, 116, 47]⟩, .string ⟨#[101, 110, 99, 111, 100, 101, 100]⟩] 24)
  have o8 := o7.below h78
  have e8 := RowAt.new w7 #[.string ⟨#[104, 116, 116, 112, 58, 47, 47, 112, 117, 114, 108, 46, 111, 114, 103, 47, 114, 115, 115, 47, 49, 46, 48, 47, 109, 111, 100, 117, 108, 101, 115, 47, 99, 111, 110, 116, 101, 110, 116, 47]⟩, .string ⟨#[101, 110, 99, 111, 100, 101, 100]⟩] 24
  have d0 : (w7.alloc (.cells #[.string ⟨#[104, 116, 116, 112, 58, 47, 47, 112, 117, 114, 108, 46, 111, 114, 103, 47, 114, 115, 115, 47, 49, 46, 48, 47, 109, 111, 100, 117, 108, 101, 115, 47, 99, 111, 110, 116, 101, 110, 116, 47]⟩, .string ⟨#[101, 110, 99, 111, 100, 101, 100]⟩] 24)).cell? ⟨w7.heap.size, 0, none⟩ = some (.string ⟨#[104, 116, 116, 112, 58, 47, 47, 112, 117, 114, 108, 46, 111, 114, 103, 47, 114, 115, 115, 47, 49, 46, 48, 47, 109, 111, 100, 117, 108, 101, 115, 47, 99, 111, 110, 116, 101, 110, 116, 47]⟩) := e8.blk.cell 0 rfl
  have d1 : (w7.alloc (.cells #[.string ⟨#[104, 116, 116, 112, 58, 47, 47, 112, 117, 114, 108, 46, 111, 114, 103, 47, 114, 115, 115, 47, 49, 46, 48, 47, 109, 111, 100, 117, 108, 101, 115, 47, 99, 111, 110, 116, 101, 110, 116, 47]⟩, .string ⟨#[101, 110, 99, 111, 100, 101, 100]⟩] 24)).cell? ⟨w7.heap.size, 1, none⟩ = some (.string ⟨#[101, 110, 99, 111, 100, 101, 100]⟩) := e8.blk.cell 1 rfl
  obtain ⟨a9, c9, w9, hrun9, o9, hb89⟩ := o8.app3 (Nat.le_trans hs7 h78.size) (evS encdN []) (evT b) (evE encdN) #[.int .i8 0, .string ⟨#[104, 116, 116, 112, 58, 47, 47, 112, 117, 114, 108, 46, 111, 114, 103, 47, 114, 115, 115, 47, 49, 46, 48, 47, 109, 111, 100, 117, 108, 101, 115, 47, 99, 111, 110, 116, 101, 110, 116, 47]⟩, .string ⟨#[101, 110, 99, 111, 100, 101, 100]⟩, .slice none 0 0, .string ⟨#[]⟩, .int .i8 2, .string ⟨#[]⟩, .string ⟨#[]⟩, .slice none 0 0, .string b, .int .i8 1, .string ⟨#[104, 116, 116, 112, 58, 47, 47, 112, 117, 114, 108, 46, 111, 114, 103, 47, 114, 115, 115, 47, 49, 46, 48, 47, 109, 111, 100, 117, 108, 101, 115, 47, 99, 111, 110, 116, 101, 110, 116, 47]⟩, .string ⟨#[101, 110, 99, 111, 100, 101, 100]⟩, .slice none 0 0, .string ⟨#[]⟩] rfl rfl rfl rfl 9 rfl (by decide)
  have HR9 := Lib.hid hrun9
  have hb9 := (bt hb7 h78).trans (hb89.mono hw3)
  have n9 := (n7.below h78 n7.lt).below hb89 hq3
  have hs9 : bs ≤ w9.heap.size := Nat.le_trans hs7 (Nat.le_trans h78.size hb89.size)
  rw [World.size_alloc] at HR9
  clear hrun9 h78 hb89 o8 n7 hb7 o7 e8
  go_wp2_with (first | (at_builtin; refine wpList_append_run rfl _ _ _ _ rfl _ _ rfl rfl _ _ HR7.out ?_; clear HR7) | (at_builtin; refine wpList_append_run rfl _ _ _ _ rfl _ _ rfl rfl _ _ HR9.out ?_))
  clear HR9 hs7 d0 d1
  refine (wpIn_wide (n := 6)).1 ?_
  refine wpIn_region_T 8 (fun w' => Below w9.drew.heap.size w9.drew w') (by kernel_rfl) (by decide) ?_
  have n9d := n9.below (Below.refl _ w9).drew n9.lt
  have NC := Lib.hid (fun (u : World) (hu : Below w9.drew.heap.size w9.drew u) => (show u.cell? ⟨q, 0, none⟩ = some (.string ⟨#[]⟩) ∧ u.cell? ⟨q, 1, none⟩ = some (.string ⟨#[114, 115, 115]⟩) from ⟨(n9d.below hu n9d.lt).blk.cell 0 rfl, (n9d.below hu n9d.lt).blk.cell 1 rfl⟩))
  refine walkT_take (i := 0) (v := ?_) rfl (by kernel_rfl) (fun _ _ _ h => h) ⟨Or.inl ⟨by rfl, ?_⟩, fun _ => rfl⟩ (Below.refl _ _) ?_
  rotate_left
  · intro u hu
    go_simp
    try rfl
  simp only [Act.put]
  refine walkT_take (i := 5) (v := ?_) rfl (by kernel_rfl) (fun _ _ _ h => h) ⟨Or.inl ⟨by rfl, ?_⟩, fun _ => rfl⟩ (Below.refl _ _) ?_
  rotate_left
  · intro u hu
    obtain ⟨x0, x1⟩ := NC.out u hu
    go_simp
    try rfl
  simp only [Act.put]
  refine walkT_take (i := 6) (v := ?_) rfl (by kernel_rfl) (fun _ _ _ h => h) ⟨Or.inl ⟨by rfl, ?_⟩, fun _ => rfl⟩ (Below.refl _ _) ?_
  rotate_left
  · intro u hu
    go_simp
    try rfl
  simp only [Act.put]
  refine walkT_step (i := 1) rfl (by kernel_rfl) (fun K hK => ?_)
  rw [if_pos (by rfl)]
  go_simp
  refine ⟨trivial, ?_⟩
  refine (callsIn_wide.2 (law23_plain ⟨#[105, 116, 101, 109]⟩ _)).mono ?_
  rintro r v1 ⟨rfl, g1⟩
  refine hK _ _ g1 ?_
  clear hK K
  refine walkT_take (i := 2) (v := ?_) rfl (by kernel_rfl) (fun _ _ _ h => h) ⟨Or.inl ⟨by rfl, ?_⟩, fun _ => rfl⟩ (g1) ?_
  rotate_left
  · intro u hu
    go_simp
    try rfl
  simp only [Act.put]
  refine walkT_step (i := 3) rfl (by kernel_rfl) (fun K hK => ?_)
  rw [if_pos (by rfl)]
  go_simp
  refine ⟨trivial, ?_⟩
  refine (callsIn_wide.2 (law23_plain ⟨#[99, 104, 97, 110, 110, 101, 108]⟩ _)).mono ?_
  rintro r v2 ⟨rfl, g2⟩
  refine hK _ _ (bt g1 g2) ?_
  clear hK K
  refine walkT_take (i := 4) (v := ?_) rfl (by kernel_rfl) (fun _ _ _ h => h) ⟨Or.inl ⟨by rfl, ?_⟩, fun _ => rfl⟩ (bt g1 g2) ?_
  rotate_left
  · intro u hu
    go_simp
    try rfl
  simp only [Act.put]
  have hb910 : Below w9.heap.size w9 v2 := ((Below.refl _ w9).drew).trans (bt g1 g2)
  obtain ⟨a11, c11, w11, hrun11, o11, hb11⟩ := (o9.below hb910).app3 (Nat.le_trans hs9 hb910.size) (evE itN) (evE chanN) (evE rssN) #[.int .i8 1, .string ⟨#[]⟩, .string ⟨#[105, 116, 101, 109]⟩, .slice none 0 0, .string ⟨#[]⟩, .int .i8 1, .string ⟨#[]⟩, .string ⟨#[99, 104, 97, 110, 110, 101, 108]⟩, .slice none 0 0, .string ⟨#[]⟩, .int .i8 1, .string ⟨#[]⟩, .string ⟨#[114, 115, 115]⟩, .slice none 0 0, .string ⟨#[]⟩] rfl rfl rfl rfl 12 rfl (by decide)
  have HR11 := hrun11
  rw [app_veil] at HR11
  have hbf := (bt hb9 hb910).trans (hb11.mono hw3)
  have of := Lib.hid (o11.mono hw3)
  refine walkT_step (i := 7) rfl (by kernel_rfl) (fun K hK => ?_)
  rw [if_pos (by rfl)]
  go_simp
  refine hK _ _ ((bt g1 g2).alloc (Nat.le_trans g1.size g2.size) _) ?_
  clear hK K NC n9d hrun11 hb11 hb910 hb9 o9 o11 n9 g1 g2
  refine walkT_tail (by kernel_rfl) ?_
  simp only [List.drop_succ_cons, List.drop_zero]
  gi_wp2_with fail
  go_wp2_with fail
  go_ret
  exact ⟨_, _, rfl, of.out, hbf⟩
end Go.Proofs.Yteefopeclfojiaa
/- 
  Layer 23: the walk of the law's wakes.
 -/
namespace Go.Proofs.Yteefopeclfojiaa
open Go.RowKit
/-- a row of one item of the call's own, its cells. -/
theorem one_item {base : Nat} {w : World} {v : Value} {X : Itm} (h : OwnX base w v [X]) : ∃ g c, v = .slice (some ⟨g, 0, none⟩) 1 c ∧ g < w.heap.size ∧ ∀ j u, (itC X)[j]? = some u → w.cell? ⟨g, j, none⟩ = some u := by
  rcases h.2 with ⟨rfl, h0⟩ | ⟨g, cap, cur, rfl, h1, hg, -⟩
  · cases h0
  · refine ⟨g, cap, rfl, (Array.getElem?_eq_some_iff.1 hg).1, fun j u hj => ?_⟩
    have := h.cells (g := g) rfl j u (by unfold itsC; simpa using hj)
    rwa [addr0, Nat.zero_add] at this
/-- what a doc of the law's is to a walk. -/
theorem doc_rev {base : Nat} {w : World} {v : Value} {a b : ByteArray} (h : OwnK base w v (flT (docT a b))) (ha : (txsL (flT (docT a b))).length ≤ 1000) : REv w.heap.size (flT (docT a b)) v w := by
  have hat : ∀ e ∈ flT (docT a b), e.at_ = [] := by
    intro e he
    simp [flT, docT, Fo.fl, evS, evE, evT] at he
    rcases he with h | h | h | h | h | h | h | h | h | h | h | h <;> rw [h]
  exact ⟨⟨h.reads, Nat.le_refl _, by show 12 ≤ 9999; decide, fun e he => by rw [hat e he]; exact Nat.zero_le _, by omega, h.cap⟩, by omega, fun e he x hx => by rw [hat e he] at hx; cases hx⟩
set_option maxRecDepth 100000 in
set_option maxHeartbeats 8000000 in
theorem law23_wakes (w : World) : Calls Try.prog 47 #[] w fun r w' => r = .returned (.bool true) ∧ Below w.heap.size w w' := by
  have HD1 := Lib.hid (law23_doc ⟨#[97]⟩ ⟨#[98]⟩ w)
  have HD2 := Lib.hid (fun (u : World) => law23_doc ⟨#[97]⟩ ⟨#[32]⟩ u)
  have HF1 := Lib.hid (show feedR (flT (docT ⟨#[97]⟩ ⟨#[98]⟩)) = _ from (feed_flT23 _ docT_wf1).1.trans docT_feed1)
  have HF2 := Lib.hid (show feedR (flT (docT ⟨#[97]⟩ ⟨#[32]⟩)) = _ from (feed_flT23 _ docT_wf2).1.trans docT_feed2)
  have HK1 := Lib.hid (show (if kindP (flT (docT ⟨#[97]⟩ ⟨#[98]⟩)) = 0 then (43 : Int) else 0) = 0 by rw [(feed_flT23 _ docT_wf1).2]; decide +kernel)
  have HK2 := Lib.hid (show (if kindP (flT (docT ⟨#[97]⟩ ⟨#[32]⟩)) = 0 then (43 : Int) else 0) = 0 by rw [(feed_flT23 _ docT_wf2).2]; decide +kernel)
  go_enter Try.func47, Try.ntmps47
  go_wp2_with fail
  refine HD1.out.mono ?_
  rintro r w1 ⟨x1, c1, rfl, o1, hb1⟩
  have HP1 := Lib.hid (rss_Parse _ _ _ w1 (doc_rev o1 (by decide +kernel)))
  clear HD1 o1
  go_wp2_with fail
  refine HP1.out.mono ?_
  rintro r w2 ⟨u2, rfl, hraw2, hb2⟩
  rw [HK1.out]
  rw [HF1.out] at hraw2
  obtain ⟨v2, rfl, ho2⟩ := hraw2
  obtain ⟨g2, k2, rfl, hg2, hc2⟩ := one_item ho2
  have e2 : w2.cell? ⟨g2, 4, none⟩ = some (.string ⟨#[98]⟩) := hc2 4 _ rfl
  have r3 := RowAt.new w2 (rawC 1 Itm.none (.slice (some ⟨g2, 0, none⟩) 1 k2)) 50
  have hb3 : Below w.heap.size w (w2.alloc (.cells (rawC 1 Itm.none (.slice (some ⟨g2, 0, none⟩) 1 k2)) 50)) := (bt hb1 hb2).alloc (Nat.le_trans hb1.size hb2.size) _
  clear ho2 hc2 HP1 hb1 hb2
  unfold rawC
  unfold rawC at r3 hb3
  go_wp2_with fail
  have e3 : (w2.alloc (.cells #[.int .i8 1, .string Itm.none.id, .string Itm.none.title, .string Itm.none.link, .string Itm.none.author, .string Itm.none.content, .string Itm.none.date, .int .i8 Itm.none.kind, .slice (some ⟨g2, 0, none⟩) 1 k2] 50)).cell? ⟨g2, 4, none⟩ = some (.string ⟨#[98]⟩) := by rw [World.cell?_alloc_lt _ _ _ (by exact hg2)]; exact e2
  have hg3 : g2 < (w2.alloc (.cells #[.int .i8 1, .string Itm.none.id, .string Itm.none.title, .string Itm.none.link, .string Itm.none.author, .string Itm.none.content, .string Itm.none.date, .int .i8 Itm.none.kind, .slice (some ⟨g2, 0, none⟩) 1 k2] 50)).heap.size := by simp; omega
  generalize w2.alloc (.cells #[.int .i8 1, .string Itm.none.id, .string Itm.none.title, .string Itm.none.link, .string Itm.none.author, .string Itm.none.content, .string Itm.none.date, .int .i8 Itm.none.kind, .slice (some ⟨g2, 0, none⟩) 1 k2] 50) = w3 at r3 hb3 e3 hg3 ⊢
  obtain ⟨q1, hq1⟩ : ∃ q, w2.heap.size = q := ⟨_, rfl⟩
  rw [hq1] at r3 ⊢
  clear e2 hg2 hq1 HK1 HF1
  refine (HD2.out w3).mono ?_
  rintro r w4 ⟨x4, c4, rfl, o4, hb4⟩
  have HP4 := Lib.hid (rss_Parse _ _ _ w4 (doc_rev o4 (by decide +kernel)))
  clear HD2 o4
  go_wp2_with fail
  refine HP4.out.mono ?_
  rintro r w5 ⟨u5, rfl, hraw5, hb5⟩
  rw [HK2.out]
  rw [HF2.out] at hraw5
  obtain ⟨v5, rfl, ho5⟩ := hraw5
  obtain ⟨g5, k5, rfl, hg5, hc5⟩ := one_item ho5
  have e5 : w5.cell? ⟨g5, 4, none⟩ = some (.string ⟨#[97]⟩) := hc5 4 _ rfl
  have r6 := RowAt.new w5 (rawC 1 Itm.none (.slice (some ⟨g5, 0, none⟩) 1 k5)) 50
  have h36 : Below w3.heap.size w3 (w5.alloc (.cells (rawC 1 Itm.none (.slice (some ⟨g5, 0, none⟩) 1 k5)) 50)) := (bt hb4 hb5).alloc (Nat.le_trans hb4.size hb5.size) _
  unfold rawC
  unfold rawC at r6 h36
  have e6 : (w5.alloc (.cells #[.int .i8 1, .string Itm.none.id, .string Itm.none.title, .string Itm.none.link, .string Itm.none.author, .string Itm.none.content, .string Itm.none.date, .int .i8 Itm.none.kind, .slice (some ⟨g5, 0, none⟩) 1 k5] 50)).cell? ⟨g5, 4, none⟩ = some (.string ⟨#[97]⟩) := by rw [World.cell?_alloc_lt _ _ _ (by exact hg5)]; exact e5
  have f6 : (w5.alloc (.cells #[.int .i8 1, .string Itm.none.id, .string Itm.none.title, .string Itm.none.link, .string Itm.none.author, .string Itm.none.content, .string Itm.none.date, .int .i8 Itm.none.kind, .slice (some ⟨g5, 0, none⟩) 1 k5] 50)).cell? ⟨g2, 4, none⟩ = some (.string ⟨#[98]⟩) := (h36.cell (p := ⟨g2, 4, none⟩) hg3).trans e3
  have s6 := r3.below h36 r3.lt
  have a0 : (w5.alloc (.cells #[.int .i8 1, .string Itm.none.id, .string Itm.none.title, .string Itm.none.link, .string Itm.none.author, .string Itm.none.content, .string Itm.none.date, .int .i8 Itm.none.kind, .slice (some ⟨g5, 0, none⟩) 1 k5] 50)).cell? ⟨q1, 0, none⟩ = some (.int .i8 1) := s6.blk.cell 0 rfl
  have a8 : (w5.alloc (.cells #[.int .i8 1, .string Itm.none.id, .string Itm.none.title, .string Itm.none.link, .string Itm.none.author, .string Itm.none.content, .string Itm.none.date, .int .i8 Itm.none.kind, .slice (some ⟨g5, 0, none⟩) 1 k5] 50)).cell? ⟨q1, 8, none⟩ = some (.slice (some ⟨g2, 0, none⟩) 1 k2) := s6.blk.cell 8 rfl
  have b8 : (w5.alloc (.cells #[.int .i8 1, .string Itm.none.id, .string Itm.none.title, .string Itm.none.link, .string Itm.none.author, .string Itm.none.content, .string Itm.none.date, .int .i8 Itm.none.kind, .slice (some ⟨g5, 0, none⟩) 1 k5] 50)).cell? ⟨w5.heap.size, 8, none⟩ = some (.slice (some ⟨g5, 0, none⟩) 1 k5) := r6.blk.cell 8 rfl
  have HBF := Lib.hid (bt hb3 h36)
  clear ho5 hc5 HP4 hb4 hb5 r3 e3 hb3 r6 s6 h36 e5
  go_wp2_with fail
  go_ret
  exact ⟨rfl, HBF.out⟩
end Go.Proofs.Yteefopeclfojiaa
