/-
  Parts RtA RtB of this seat's texts, in one file: contracts of functions that the law reaches, and the plain laws behind them. No condition.
-/
import Derived.Test.YteefopeclfojiaaG17
import Derived.Test.YteefopeclfojiaaG4
import Derived.Sort.QuietTacIn
import Derived.Test.YteefopeclfojiaaG14
/- 
  Layer 23: the walk of the document's Field.
 -/
namespace Go.Proofs.Yteefopeclfojiaa
open Go.RowKit Go.Sort
attribute [local go_sem] Oper.semAt_some
/-- what a child is to a field. -/
def fldZ (es : List Evt) (nm : NmT) (k : Nat) : Option ByteArray := if nmK es nm k = true then gdK es k else none
theorem fldK_kids (es : List Evt) (nm : NmT) : fldK es nm = (kidsP es 0).findSome? (fldZ es nm) := by
  unfold fldK namedR
  rw [findSome_filter]
  rfl
set_option maxRecDepth 100000 in
set_option maxHeartbeats 8000000 in
theorem ref23_Field (B : Nat) (es : List Evt) (v : Value) (ns : List NmT) (nv : Value) (w : World) (hE : REv B es v w) (hN : NsR w nv ns) (hns : ns.length ≤ 1000000) :
    Calls Try.prog 51 #[v, nv] w fun r w' => r = .returned (.tuple #[.string (fieldP es ns).1, .int .i64 (fieldP es ns).2]) ∧ Below w.heap.size w w' := by
  obtain ⟨avs, ⟨a, cap, rfl, -⟩, -⟩ := id hE.f.r
  obtain ⟨na, nc, rfl⟩ := hN.form
  have HK := ref16_Kids B es _ 0 _ hE.f.r hE.f.hB (by have := hE.f.n; omega) hE.f.z2
  obtain ⟨nn, hnn⟩ : ∃ n, es.length = n := ⟨_, rfl⟩
  have HNN := Lib.hid hnn
  rw [hnn] at HK hE ⊢
  have HE := Lib.hid hE
  obtain ⟨p, hp⟩ : ∃ n, ns.length = n := ⟨_, rfl⟩
  have HP := Lib.hid hp
  rw [hp] at hN hns ⊢
  have HNS := Lib.hid hN
  have hZ := fldK_kids es
  obtain ⟨R, hR⟩ : ∃ R, fieldP es ns = R := ⟨_, rfl⟩
  have hst0 : fieldF (fldK es) (ns.drop 0) 0 = R := hR
  rw [hR]
  have hkm : ∀ x ∈ kidsP es 0, x < nn := fun x hx => by rw [← hnn]; exact kidsP_mem hx
  have hkl := kidsP_len es 0
  have hn9 := hE.f.n
  rw [hnn] at hkl hn9
  obtain ⟨K, hK⟩ : ∃ K, kidsP es 0 = K := ⟨_, rfl⟩
  rw [hK] at HK hkm hkl hZ
  have HK := Lib.hid HK
  have HKM := Lib.hid hkm
  have HZ := Lib.hid hZ
  clear hE hnn hK hkm hN hp hR hZ
  go_enter Try.func51, Try.ntmps51
  go_wp2_with fail
  refine (HK.out).mono ?_
  rintro r w1 ⟨u, rfl, hrow, hb1⟩
  obtain ⟨ka, kc, rfl, -⟩ := kid_row hrow
  obtain ⟨m, hm⟩ : ∃ m, K.length = m := ⟨_, rfl⟩
  have HC := Lib.hid (kid_cells hrow)
  have HM := Lib.hid hm
  rw [hm] at hkl ⊢
  have hbw := hb1
  have HE1 := Lib.hid (HE.out.below hb1)
  have HNS1 := Lib.hid (HNS.out.below hb1)
  clear hrow hm HK hb1
  go_wp2_with fail
  go_loopw [7] (fun i wr => ∃ j : Nat, i = .int .i64 j ∧ j ≤ p ∧ fieldF (fldK es) (ns.drop j) j = R ∧ Below w1.heap.size w1 wr) (fun i _ => p - (intOf i).toNat)
  case atStart => exact ⟨0, rfl, by omega, hst0, Below.refl _ _⟩
  case round =>
    clear hst0
    obtain ⟨j, rfl, hj, hst, hb⟩ := hrel
    by_cases hlt : j < p
    · have hd := decide_eq_true (show (j : Int) < (p : Int) by omega)
      have hjl : j < ns.length := by rw [HP.out]; exact hlt
      rw [fieldP_at hjl] at hst
      obtain ⟨x, hx⟩ : ∃ x, ns[j]? = some x := ⟨_, List.getElem?_eq_getElem hjl⟩
      have hxe : ns[j] = x := by rw [List.getElem?_eq_getElem hjl] at hx; injection hx
      rw [hxe] at hst
      have HST := Lib.hid hst
      have HX := Lib.hid hx
      clear hst hx hxe
      go_wp2_with fail
      go_loopw [8] (fun i wr => ∃ k : Nat, i = .int .i64 k ∧ k ≤ m ∧ (K.take k).findSome? (fldZ es x) = none ∧ Below w1.heap.size w1 wr) (fun i _ => m - (intOf i).toNat)
      case atStart => exact ⟨0, rfl, by omega, rfl, hb⟩
      case round =>
        clear hb
        obtain ⟨k, rfl, hk, HF, hb⟩ := hrel
        by_cases hkt : k < m
        · have hd1 := decide_eq_true (show (k : Int) < (m : Int) by omega)
          obtain ⟨q, hq⟩ : ∃ q, K[k]? = some q := ⟨_, List.getElem?_eq_getElem (by rw [HM.out]; exact hkt)⟩
          obtain ⟨g, hga, kcell⟩ := HC.out wr hb k q hq
          subst hga
          have hqn := HKM.out q (List.mem_of_getElem? hq)
          obtain ⟨y, hy⟩ : ∃ y, es[q]? = some y := ⟨_, List.getElem?_eq_getElem (by rw [HNN.out]; exact hqn)⟩
          have hfs := findSome_step hq HF
          have hce : ∀ u, Below w1.heap.size w1 u → u.cell? ⟨g, k, none⟩ = some (.int .i64 (q : Int)) ∧ (∃ b off, a = some ⟨b, off, none⟩ ∧ u.cell? ⟨b, off + q * 5 + 1, none⟩ = some (.string y.n.1) ∧ u.cell? ⟨b, off + q * 5 + 1 + 1, none⟩ = some (.string y.n.2)) ∧ ∃ b off, na = some ⟨b, off, none⟩ ∧ u.cell? ⟨b, off + j * 2, none⟩ = some (.string x.1) ∧ u.cell? ⟨b, off + j * 2 + 1, none⟩ = some (.string x.2) := fun u hu => by
            obtain ⟨g', hg', h1⟩ := HC.out u hu k q hq
            cases hg'
            obtain ⟨b, off, cap', av, hv, hbB, c0, c1, c2, -⟩ := HE1.out.f.r.get hu HE1.out.f.hB q y hy
            injection hv with hv
            obtain ⟨b2, o2, h2, -, d0, d1⟩ := HNS1.out.at_ HX.out hu (Nat.le_refl _)
            exact ⟨h1, ⟨b, off, hv, c1, by rw [show off + q * 5 + 1 + 1 = off + q * 5 + 2 by omega]; exact c2⟩, b2, o2, h2, d0, d1⟩
          obtain ⟨-, ⟨b, off, rfl, -⟩, b2, o2, rfl, -⟩ := hce wr hb
          have HCE := Lib.hid (show ∀ u, Below w1.heap.size w1 u → u.cell? ⟨g, k, none⟩ = some (.int .i64 (q : Int)) ∧ u.cell? ⟨b, off + q * 5 + 1, none⟩ = some (.string y.n.1) ∧ u.cell? ⟨b, off + q * 5 + 1 + 1, none⟩ = some (.string y.n.2) ∧ u.cell? ⟨b2, o2 + j * 2, none⟩ = some (.string x.1) ∧ u.cell? ⟨b2, o2 + j * 2 + 1, none⟩ = some (.string x.2) from fun u hu => by
            obtain ⟨h1, ⟨b', off', h2, h3, h4⟩, b3, o3, h5, h6, h7⟩ := hce u hu
            cases h2
            cases h5
            exact ⟨h1, h3, h4, h6, h7⟩)
          have hnk : nmK es x q = namedB y.n x := nmK_of hy x
          clear hce hy HF hq
          have r0 := cell_regrown (HCE.out wr hb).1
          have r1 := cell_regrown (HCE.out wr hb).2.1
          have r2 := cell_regrown (HCE.out wr hb).2.2.1
          have r3 := cell_regrown (HCE.out wr hb).2.2.2.1
          have r4 := cell_regrown (HCE.out wr hb).2.2.2.2
          have cN := fun (d : Nat) (os : Array Obj) => CallsIn.regrown_of (callsIn_wide (n := 5).2 (ref23_named y.n x (grow (redrawn wr d) os)))
          cases hnb : namedB y.n x with
          | false =>
            have HNX := Lib.hid (show (K.take (k + 1)).findSome? (fldZ es x) = none by rw [hfs]; unfold fldZ; rw [hnk, hnb, if_neg Bool.false_ne_true])
            rw [hnb] at cN
            clear hfs hnk hnb
            go_wp2_with fail
            refine (wpIn_wide (n := 6)).1 ?_
            refine wpIn_region_below_tail 13 (by kernel_rfl) (by kernel_rfl) (by kernel_rfl) ?_
            simp only [List.take_succ_cons, List.take_zero, List.drop_succ_cons, List.drop_zero]
            repeat (refine wpQuietIn_step (askedR (fun _ => trivial)) (fun K hK => ?_); go_simp; first | (refine hK _ ?_; clear hK K) | (apply Exists.intro; refine ⟨fun _ => ?_, hK _ ?_⟩; (first | exact cN _ _ | exact ⟨by decide, cN _ _⟩); clear hK K))
            clear r0 r1 r2 r3 r4 cN
            refine wpQuietIn_nil ?_
            rintro w6 ⟨⟨dq, osq⟩, hw6⟩
            have hb6 : Below wr.heap.size wr w6 := by rw [hw6]; exact below_regrown wr dq osq
            clear hw6
            have hc6 := hb.trans (hb6.mono hb.size)
            gi_wp2_with fail
            go_wp2_with fail
            exact ⟨⟨k + 1, by go_num, by omega, HNX.out, hc6⟩, by simp [intOf]; omega⟩
          | true =>
            have hfs : (K.take (k + 1)).findSome? (fldZ es x) = gdK es q := by rw [hfs]; unfold fldZ; rw [hnk, hnb, if_pos rfl]
            rw [hnb] at cN
            obtain ⟨s, hs⟩ : ∃ s, strOfNums (textP es (q : Nat)) = s := ⟨_, rfl⟩
            have hgd : gdK es q = gdB s := by rw [← hs]; rfl
            rw [hgd] at hfs
            have hsz := text_size es q HE.out.t
            rw [hs] at hsz
            have HS := Lib.hid hs
            have HFS := Lib.hid hfs
            clear hfs hnk hnb hgd hs
            go_wp2_with fail
            refine (wpIn_wide (n := 6)).1 ?_
            refine wpIn_region_below_tail 13 (by kernel_rfl) (by kernel_rfl) (by kernel_rfl) ?_
            simp only [List.take_succ_cons, List.take_zero, List.drop_succ_cons, List.drop_zero]
            repeat (refine wpQuietIn_step (askedR (fun _ => trivial)) (fun K hK => ?_); go_simp; first | (refine hK _ ?_; clear hK K) | (apply Exists.intro; refine ⟨fun _ => ?_, hK _ ?_⟩; (first | exact cN _ _ | exact ⟨by decide, cN _ _⟩); clear hK K))
            clear r0 r1 r2 r3 r4 cN
            refine wpQuietIn_nil ?_
            rintro w6 ⟨⟨dq, osq⟩, hw6⟩
            have hb6 : Below wr.heap.size wr w6 := by rw [hw6]; exact below_regrown wr dq osq
            clear hw6
            have hc6 := hb.trans (hb6.mono hb.size)
            have k6 := (HCE.out w6 hc6).1
            have hE6 := HE1.out.below (B := B) hc6
            have hT := ref16_Text B es (.slice (some ⟨b, off, none⟩) nn cap) q w6 hE6.f.r hE6.f.hB (by have := hE6.f.n; omega) hE6.f.z2 hE6.f.t
            rw [HS.out] at hT
            have HT := Lib.hid hT
            clear hT hE6 HCE HS
            gi_wp2_with fail
            go_wp2_with fail
            refine (HT.out).mono ?_
            rintro r w7 ⟨rfl, hb7⟩
            have hc7 := hc6.trans (hb7.mono hc6.size)
            clear k6
            go_wp2_with fail
            refine (ref09_Blank s w7 hsz).mono ?_
            rintro r w8 ⟨rfl, rfl⟩
            cases hbl : blankN (nums s) with
            | true =>
              have HNX := Lib.hid (show (K.take (k + 1)).findSome? (fldZ es x) = none by rw [HFS.out]; unfold gdB; rw [if_pos hbl])
              go_wp2_with fail
              exact ⟨⟨k + 1, by go_num, by omega, HNX.out, hc7⟩, by simp [intOf]; omega⟩
            | false =>
              have HRT := Lib.hid (show R = (s, (j : Int)) by
                have h1 : fldK es x = some s := by
                  rw [HZ.out x, findSome_pre (y := s) (by rw [HFS.out]; unfold gdB; rw [hbl, if_neg Bool.false_ne_true])]
                have h2 := HST.out
                rw [h1] at h2
                exact h2.symm)
              go_wp2_with fail
              go_ret2
              exact ⟨by rw [HRT.out]; rfl, hbw.trans (hc7.mono hbw.size)⟩
        · have hd1 := decide_eq_false (show ¬ (k : Int) < (m : Int) by omega)
          have HNX := Lib.hid (show fieldF (fldK es) (ns.drop (j + 1)) (j + 1) = R by
            have h1 : fldK es x = none := by
              rw [HZ.out x]
              rw [List.take_of_length_le (by rw [HM.out]; omega)] at HF
              exact HF
            have h2 := HST.out
            rw [h1] at h2
            exact h2)
          clear HF
          go_wp2_with fail
          exact ⟨⟨j + 1, by go_num, by omega, HNX.out, hb⟩, by simp [intOf]; omega⟩
    · have hd := decide_eq_false (show ¬ (j : Int) < (p : Int) by omega)
      have HRT := Lib.hid (show R = (⟨#[]⟩, -1) by rw [← hst, List.drop_eq_nil_of_le (by rw [HP.out]; omega)]; rfl)
      clear hst
      go_wp2_with fail
      go_ret2
      exact ⟨by rw [HRT.out]; rfl, hbw.trans (hb.mono hbw.size)⟩
end Go.Proofs.Yteefopeclfojiaa
/- 
  Layer 23: the walk of the document's item: what is found in a channel or an item.
 -/
namespace Go.Proofs.Yteefopeclfojiaa
open Go.RowKit
/-- what lasts while the document's item is found: the result's block, the item's, rows of names. -/
structure DIt (w : World) (X : Itm) (L : List (Value × List NmT)) (W : World) : Prop where
  b : Below w.heap.size w W
  r6 : RowAt W w.heap.size 47 (itV Itm.none)
  ri : RowAt W (w.heap.size + 1) 47 (itV X)
  rows : ∀ p ∈ L, ∃ g cs, p.1 = .slice (some ⟨g, 0, none⟩) p.2.length p.2.length ∧ w.heap.size + 1 < g ∧ RowAt W g 24 cs ∧ cs.toList = nmC p.2
theorem DIt.up {w : World} {X : Itm} {L : List (Value × List NmT)} {W W' : World} (h : DIt w X L W) (hb : Below W.heap.size W W') : DIt w X L W' :=
  ⟨bt h.b hb, h.r6.below hb h.r6.lt, h.ri.below hb h.ri.lt, fun p hp => by
    obtain ⟨g, cs, h1, h2, h3, h4⟩ := h.rows p hp
    exact ⟨g, cs, h1, h2, h3.below hb h3.lt, h4⟩⟩
theorem DIt.tail {w : World} {X : Itm} {p : Value × List NmT} {L : List (Value × List NmT)} {W : World} (h : DIt w X (p :: L) W) : DIt w X L W := ⟨h.b, h.r6, h.ri, fun q hq => h.rows q (List.mem_cons_of_mem _ hq)⟩
theorem DIt.row {w : World} {X : Itm} {L : List (Value × List NmT)} {W : World} (h : DIt w X L W) (cs : Array Value) (ns : List NmT) (n : Nat) (hn : ns.length = n) (hc : cs.toList = nmC ns) :
    DIt w X ((.slice (some ⟨W.heap.size, 0, none⟩) n n, ns) :: L) (W.alloc (.cells cs 24)) := by
  subst hn
  have h1 := h.up ((Below.refl _ W).alloc (Nat.le_refl _) (.cells cs 24))
  refine ⟨h1.b, h1.r6, h1.ri, fun p hp => ?_⟩
  rcases List.mem_cons.1 hp with rfl | hp
  · exact ⟨W.heap.size, cs, rfl, h.ri.lt, RowAt.new W cs _, hc⟩
  · exact h1.rows p hp
theorem DIt.set {w : World} {X Y : Itm} {L : List (Value × List NmT)} {W : World} (h : DIt w X L W) (j : Nat) (u : Value) (hy : (itV X).setIfInBounds j u = itV Y) : DIt w Y L (W.setCell ⟨w.heap.size + 1, j, none⟩ u) :=
  ⟨h.b.setCell (p := ⟨w.heap.size + 1, j, none⟩) (Nat.le_succ _) u, h.r6.far (by omega) j u, by rw [← hy]; exact h.ri.set j u, fun p hp => by
    obtain ⟨g, cs, h1, h2, h3, h4⟩ := h.rows p hp
    exact ⟨g, cs, h1, h2, h3.far (by omega) j u, h4⟩⟩
theorem DIt.ns {w : World} {X : Itm} {L : List (Value × List NmT)} {W : World} (h : DIt w X L W) {p : Value × List NmT} (hp : p ∈ L) : NsR W p.1 p.2 := by
  obtain ⟨g, cs, h1, h2, h3, h4⟩ := h.rows p hp
  refine ⟨_, _, h1, fun j u hj => ⟨g, 0, rfl, h3.lt, ?_⟩⟩
  rw [Nat.zero_add]
  refine h3.blk.cell j ?_
  rw [← Array.getElem?_toList, h4]
  exact hj
theorem DIt.new (w : World) : DIt w Itm.none [] ((w.alloc (.cells #[.string ⟨#[]⟩, .string ⟨#[]⟩, .string ⟨#[]⟩, .string ⟨#[]⟩, .string ⟨#[]⟩, .string ⟨#[]⟩, .int .i8 0] 47)).alloc (.cells #[.string ⟨#[]⟩, .string ⟨#[]⟩, .string ⟨#[]⟩, .string ⟨#[]⟩, .string ⟨#[]⟩, .string ⟨#[]⟩, .int .i8 0] 47)) := by
  have h2 := RowAt.new (w.alloc (.cells #[.string ⟨#[]⟩, .string ⟨#[]⟩, .string ⟨#[]⟩, .string ⟨#[]⟩, .string ⟨#[]⟩, .string ⟨#[]⟩, .int .i8 0] 47)) #[.string ⟨#[]⟩, .string ⟨#[]⟩, .string ⟨#[]⟩, .string ⟨#[]⟩, .string ⟨#[]⟩, .string ⟨#[]⟩, .int .i8 0] 47
  rw [World.size_alloc] at h2
  exact ⟨((Below.refl w.heap.size w).alloc (Nat.le_refl _) _).alloc (by simp) _, (RowAt.new w _ _).alloc _, h2, fun p hp => by cases hp⟩
theorem foundF_head (f : List NmT → ByteArray × Int) (a : Option ByteArray) : foundF f a headF = ⟨(f headF.id).1, (f titleN).1, (f linkN).1, (f headF.author).1, (f headF.content).1, (f headF.date).1, kindD (f headF.date).2 3⟩ := rfl
theorem foundF_it1 (f : List NmT → ByteArray × Int) (a : Option ByteArray) : foundF f a (itemF 1) = ⟨(f (itemF 1).id).1, (f titleN).1, (f linkN).1, (f (itemF 1).author).1, (f (itemF 1).content).1, (f (itemF 1).date).1, kindD (f (itemF 1).date).2 2⟩ := rfl
theorem foundF_it2 (f : List NmT → ByteArray × Int) (a : Option ByteArray) : foundF f a (itemF 2) = ⟨idF true a (f (itemF 2).id).1, (f titleN).1, (f linkN).1, (f (itemF 2).author).1, (f (itemF 2).content).1, (f (itemF 2).date).1, kindD (f (itemF 2).date).2 2⟩ := rfl
set_option maxRecDepth 100000 in
set_option maxHeartbeats 16000000 in
theorem ref23_item_h (B : Nat) (es : List Evt) (v : Value) (f : Int) (w : World) (hE : REv B es v w) :
    Calls Try.prog 89 #[v, .int .i8 f, .bool true] w fun r w' => r = .returned (.agg (itV (foundP es headF))) ∧ Below w.heap.size w w' := by
  obtain ⟨avs, ⟨a, cap, rfl, -⟩, -⟩ := id hE.f.r
  rw [show foundP es headF = _ from foundF_head (fieldP es) (attrP es 0 aboutN)]
  have FE := Lib.hid (fun (u : World) (hu : Below w.heap.size w u) => hE.below hu)
  obtain ⟨nn, hnn⟩ : ∃ n, es.length = n := ⟨_, rfl⟩
  rw [hnn] at FE ⊢
  clear hE hnn
  obtain ⟨⟨sT, sTk⟩, hsT⟩ : ∃ s, fieldP es titleN = s := ⟨_, rfl⟩
  have HsT := Lib.hid (show fieldP es [(⟨#[]⟩, ⟨#[116, 105, 116, 108, 101]⟩), (spC, ⟨#[116, 105, 116, 108, 101]⟩)] = (sT, sTk) from hsT)
  rw [hsT]
  clear hsT
  obtain ⟨⟨sL, sLk⟩, hsL⟩ : ∃ s, fieldP es linkN = s := ⟨_, rfl⟩
  have HsL := Lib.hid (show fieldP es [(⟨#[]⟩, ⟨#[108, 105, 110, 107]⟩)] = (sL, sLk) from hsL)
  rw [hsL]
  clear hsL
  obtain ⟨⟨sI, sIk⟩, hsI⟩ : ∃ s, fieldP es headF.id = s := ⟨_, rfl⟩
  have HsI := Lib.hid (show fieldP es [(spC, ⟨#[105, 100, 101, 110, 116, 105, 102, 105, 101, 114]⟩)] = (sI, sIk) from hsI)
  rw [hsI]
  clear hsI
  obtain ⟨⟨sA, sAk⟩, hsA⟩ : ∃ s, fieldP es headF.author = s := ⟨_, rfl⟩
  have HsA := Lib.hid (show fieldP es [(spC, ⟨#[99, 114, 101, 97, 116, 111, 114]⟩)] = (sA, sAk) from hsA)
  rw [hsA]
  clear hsA
  obtain ⟨⟨sC, sCk⟩, hsC⟩ : ∃ s, fieldP es headF.content = s := ⟨_, rfl⟩
  have HsC := Lib.hid (show fieldP es [(spC, ⟨#[100, 101, 115, 99, 114, 105, 112, 116, 105, 111, 110]⟩)] = (sC, sCk) from hsC)
  rw [hsC]
  clear hsC
  obtain ⟨⟨sD, sDk⟩, hsD⟩ : ∃ s, fieldP es headF.date = s := ⟨_, rfl⟩
  have HsD := Lib.hid (show fieldP es [(⟨#[]⟩, ⟨#[108, 97, 115, 116, 66, 117, 105, 108, 100, 68, 97, 116, 101]⟩), (⟨#[]⟩, ⟨#[112, 117, 98, 68, 97, 116, 101]⟩), (spC, ⟨#[100, 97, 116, 101]⟩)] = (sD, sDk) from hsD)
  rw [hsD]
  have HOR := Lib.hid (show (sD, sDk) = (⟨#[]⟩, -1) ∨ ∃ j s, (sD, sDk) = (s, ((j : Nat) : Int)) ∧ j < 3 ∧ blankN (nums s) = false by rw [← hsD]; exact fieldP_or es headF.date)
  clear hsD
  simp only
  have S := DIt.new w
  go_enter Try.func89, Try.ntmps89
  go_wp2_with fail
  generalize (w.alloc (.cells #[.string ⟨#[]⟩, .string ⟨#[]⟩, .string ⟨#[]⟩, .string ⟨#[]⟩, .string ⟨#[]⟩, .string ⟨#[]⟩, .int .i8 0] 47)).alloc (.cells #[.string ⟨#[]⟩, .string ⟨#[]⟩, .string ⟨#[]⟩, .string ⟨#[]⟩, .string ⟨#[]⟩, .string ⟨#[]⟩, .int .i8 0] 47) = u0 at S ⊢
  refine (ref23_plain ⟨#[116, 105, 116, 108, 101]⟩ _).mono ?_
  rintro r u1 ⟨rfl, hb⟩
  replace S := S.up hb
  clear hb
  go_wp2_with fail
  refine (ref23_of ⟨#[116, 105, 116, 108, 101]⟩ _).mono ?_
  rintro r u2 ⟨rfl, hb⟩
  replace S := S.up hb
  clear hb
  have S1 := S.row #[.string ⟨#[]⟩, .string ⟨#[116, 105, 116, 108, 101]⟩, .string spC, .string ⟨#[116, 105, 116, 108, 101]⟩] [(⟨#[]⟩, ⟨#[116, 105, 116, 108, 101]⟩), (spC, ⟨#[116, 105, 116, 108, 101]⟩)] 2 rfl rfl
  have hF := ref23_Field B es _ [(⟨#[]⟩, ⟨#[116, 105, 116, 108, 101]⟩), (spC, ⟨#[116, 105, 116, 108, 101]⟩)] _ _ (FE.out _ S1.b) (S1.ns (List.mem_cons_self ..)) (by decide)
  rw [HsT.out] at hF
  have HF := Lib.hid hF
  clear hF
  go_wp2_with fail
  refine HF.out.mono ?_
  rintro r u3 ⟨rfl, hb⟩
  replace S := (S1.up hb).tail
  clear S1 hb HF
  have c0 : u3.cell? ⟨w.heap.size + 1, 1, none⟩ = some (.string ⟨#[]⟩) := S.ri.blk.cell 1 rfl
  have f0 := S.ri.blk.free 1
  have S1 := Lib.hid (S.set (Y := ⟨⟨#[]⟩, sT, ⟨#[]⟩, ⟨#[]⟩, ⟨#[]⟩, ⟨#[]⟩, 0⟩) 1 (.string sT) rfl)
  clear S
  go_wp2_with fail
  have S := S1.out
  generalize u3.setCell ⟨w.heap.size + 1, 1, none⟩ (.string sT) = u4 at S ⊢
  clear S1 c0 f0
  refine (ref23_plain ⟨#[108, 105, 110, 107]⟩ _).mono ?_
  rintro r u5 ⟨rfl, hb⟩
  replace S := S.up hb
  clear hb
  have S1 := S.row #[.string ⟨#[]⟩, .string ⟨#[108, 105, 110, 107]⟩] [(⟨#[]⟩, ⟨#[108, 105, 110, 107]⟩)] 1 rfl rfl
  have hF := ref23_Field B es _ [(⟨#[]⟩, ⟨#[108, 105, 110, 107]⟩)] _ _ (FE.out _ S1.b) (S1.ns (List.mem_cons_self ..)) (by decide)
  rw [HsL.out] at hF
  have HF := Lib.hid hF
  clear hF
  go_wp2_with fail
  refine HF.out.mono ?_
  rintro r u6 ⟨rfl, hb⟩
  replace S := (S1.up hb).tail
  clear S1 hb HF
  have c0 : u6.cell? ⟨w.heap.size + 1, 2, none⟩ = some (.string ⟨#[]⟩) := S.ri.blk.cell 2 rfl
  have f0 := S.ri.blk.free 2
  have S1 := Lib.hid (S.set (Y := ⟨⟨#[]⟩, sT, sL, ⟨#[]⟩, ⟨#[]⟩, ⟨#[]⟩, 0⟩) 2 (.string sL) rfl)
  clear S
  go_wp2_with fail
  have S := S1.out
  generalize u6.setCell ⟨w.heap.size + 1, 2, none⟩ (.string sL) = u7 at S ⊢
  clear S1 c0 f0
  refine (ref23_of ⟨#[105, 100, 101, 110, 116, 105, 102, 105, 101, 114]⟩ _).mono ?_
  rintro r u8 ⟨rfl, hb⟩
  replace S := S.up hb
  clear hb
  have S1 := S.row #[.string spC, .string ⟨#[105, 100, 101, 110, 116, 105, 102, 105, 101, 114]⟩] [(spC, ⟨#[105, 100, 101, 110, 116, 105, 102, 105, 101, 114]⟩)] 1 rfl rfl
  go_wp2_with fail
  generalize u8.alloc (.cells #[.string spC, .string ⟨#[105, 100, 101, 110, 116, 105, 102, 105, 101, 114]⟩] 24) = u9 at S1 ⊢
  generalize u8.heap.size = q9 at S1 ⊢
  replace S := S1
  clear S1
  refine (ref23_of ⟨#[99, 114, 101, 97, 116, 111, 114]⟩ _).mono ?_
  rintro r u10 ⟨rfl, hb⟩
  replace S := S.up hb
  clear hb
  have S1 := S.row #[.string spC, .string ⟨#[99, 114, 101, 97, 116, 111, 114]⟩] [(spC, ⟨#[99, 114, 101, 97, 116, 111, 114]⟩)] 1 rfl rfl
  go_wp2_with fail
  generalize u10.alloc (.cells #[.string spC, .string ⟨#[99, 114, 101, 97, 116, 111, 114]⟩] 24) = u11 at S1 ⊢
  generalize u10.heap.size = q11 at S1 ⊢
  replace S := S1
  clear S1
  refine (ref23_of ⟨#[100, 101, 115, 99, 114, 105, 112, 116, 105, 111, 110]⟩ _).mono ?_
  rintro r u12 ⟨rfl, hb⟩
  replace S := S.up hb
  clear hb
  have S1 := S.row #[.string spC, .string ⟨#[100, 101, 115, 99, 114, 105, 112, 116, 105, 111, 110]⟩] [(spC, ⟨#[100, 101, 115, 99, 114, 105, 112, 116, 105, 111, 110]⟩)] 1 rfl rfl
  go_wp2_with fail
  generalize u12.alloc (.cells #[.string spC, .string ⟨#[100, 101, 115, 99, 114, 105, 112, 116, 105, 111, 110]⟩] 24) = u13 at S1 ⊢
  generalize u12.heap.size = q13 at S1 ⊢
  replace S := S1
  clear S1
  refine (ref23_plain ⟨#[108, 97, 115, 116, 66, 117, 105, 108, 100, 68, 97, 116, 101]⟩ _).mono ?_
  rintro r u14 ⟨rfl, hb⟩
  replace S := S.up hb
  clear hb
  go_wp2_with fail
  refine (ref23_plain ⟨#[112, 117, 98, 68, 97, 116, 101]⟩ _).mono ?_
  rintro r u15 ⟨rfl, hb⟩
  replace S := S.up hb
  clear hb
  go_wp2_with fail
  refine (ref23_of ⟨#[100, 97, 116, 101]⟩ _).mono ?_
  rintro r u16 ⟨rfl, hb⟩
  replace S := S.up hb
  clear hb
  have S1 := S.row #[.string ⟨#[]⟩, .string ⟨#[108, 97, 115, 116, 66, 117, 105, 108, 100, 68, 97, 116, 101]⟩, .string ⟨#[]⟩, .string ⟨#[112, 117, 98, 68, 97, 116, 101]⟩, .string spC, .string ⟨#[100, 97, 116, 101]⟩] [(⟨#[]⟩, ⟨#[108, 97, 115, 116, 66, 117, 105, 108, 100, 68, 97, 116, 101]⟩), (⟨#[]⟩, ⟨#[112, 117, 98, 68, 97, 116, 101]⟩), (spC, ⟨#[100, 97, 116, 101]⟩)] 3 rfl rfl
  go_wp2_with fail
  generalize u16.alloc (.cells #[.string ⟨#[]⟩, .string ⟨#[108, 97, 115, 116, 66, 117, 105, 108, 100, 68, 97, 116, 101]⟩, .string ⟨#[]⟩, .string ⟨#[112, 117, 98, 68, 97, 116, 101]⟩, .string spC, .string ⟨#[100, 97, 116, 101]⟩] 24) = u17 at S1 ⊢
  generalize u16.heap.size = q17 at S1 ⊢
  replace S := S1
  clear S1
  have hF := ref23_Field B es _ [(spC, ⟨#[105, 100, 101, 110, 116, 105, 102, 105, 101, 114]⟩)] _ _ (FE.out _ S.b) (S.ns (List.mem_cons_of_mem _ (List.mem_cons_of_mem _ (List.mem_cons_of_mem _ (List.mem_cons_self ..))))) (by decide)
  rw [HsI.out] at hF
  have HF := Lib.hid hF
  clear hF
  refine HF.out.mono ?_
  rintro r u18 ⟨rfl, hb⟩
  replace S := S.up hb
  clear hb HF
  have c0 : u18.cell? ⟨w.heap.size + 1, 0, none⟩ = some (.string ⟨#[]⟩) := S.ri.blk.cell 0 rfl
  have f0 := S.ri.blk.free 0
  have S1 := Lib.hid (S.set (Y := ⟨sI, sT, sL, ⟨#[]⟩, ⟨#[]⟩, ⟨#[]⟩, 0⟩) 0 (.string sI) rfl)
  clear S
  go_wp2_with fail
  have S := S1.out
  generalize u18.setCell ⟨w.heap.size + 1, 0, none⟩ (.string sI) = u19 at S ⊢
  clear S1 c0 f0
  have hF := ref23_Field B es _ [(spC, ⟨#[99, 114, 101, 97, 116, 111, 114]⟩)] _ _ (FE.out _ S.b) (S.ns (List.mem_cons_of_mem _ (List.mem_cons_of_mem _ (List.mem_cons_self ..)))) (by decide)
  rw [HsA.out] at hF
  have HF := Lib.hid hF
  clear hF
  refine HF.out.mono ?_
  rintro r u20 ⟨rfl, hb⟩
  replace S := S.up hb
  clear hb HF
  have c0 : u20.cell? ⟨w.heap.size + 1, 3, none⟩ = some (.string ⟨#[]⟩) := S.ri.blk.cell 3 rfl
  have f0 := S.ri.blk.free 3
  have S1 := Lib.hid (S.set (Y := ⟨sI, sT, sL, sA, ⟨#[]⟩, ⟨#[]⟩, 0⟩) 3 (.string sA) rfl)
  clear S
  go_wp2_with fail
  have S := S1.out
  generalize u20.setCell ⟨w.heap.size + 1, 3, none⟩ (.string sA) = u21 at S ⊢
  clear S1 c0 f0
  have hF := ref23_Field B es _ [(spC, ⟨#[100, 101, 115, 99, 114, 105, 112, 116, 105, 111, 110]⟩)] _ _ (FE.out _ S.b) (S.ns (List.mem_cons_of_mem _ (List.mem_cons_self ..))) (by decide)
  rw [HsC.out] at hF
  have HF := Lib.hid hF
  clear hF
  refine HF.out.mono ?_
  rintro r u22 ⟨rfl, hb⟩
  replace S := S.up hb
  clear hb HF
  have c0 : u22.cell? ⟨w.heap.size + 1, 4, none⟩ = some (.string ⟨#[]⟩) := S.ri.blk.cell 4 rfl
  have f0 := S.ri.blk.free 4
  have S1 := Lib.hid (S.set (Y := ⟨sI, sT, sL, sA, sC, ⟨#[]⟩, 0⟩) 4 (.string sC) rfl)
  clear S
  go_wp2_with fail
  have S := S1.out
  generalize u22.setCell ⟨w.heap.size + 1, 4, none⟩ (.string sC) = u23 at S ⊢
  clear S1 c0 f0
  have hF := ref23_Field B es _ [(⟨#[]⟩, ⟨#[108, 97, 115, 116, 66, 117, 105, 108, 100, 68, 97, 116, 101]⟩), (⟨#[]⟩, ⟨#[112, 117, 98, 68, 97, 116, 101]⟩), (spC, ⟨#[100, 97, 116, 101]⟩)] _ _ (FE.out _ S.b) (S.ns (List.mem_cons_self ..)) (by decide)
  rw [HsD.out] at hF
  have HF := Lib.hid hF
  clear hF
  refine HF.out.mono ?_
  rintro r u24 ⟨rfl, hb⟩
  replace S := S.up hb
  clear hb HF
  have c0 : u24.cell? ⟨w.heap.size + 1, 5, none⟩ = some (.string ⟨#[]⟩) := S.ri.blk.cell 5 rfl
  have f0 := S.ri.blk.free 5
  have c6 : u24.cell? ⟨w.heap.size + 1, 6, none⟩ = some (.int .i8 0) := S.ri.blk.cell 6 rfl
  have f6 := S.ri.blk.free 6
  have c0x : u24.cell? ⟨w.heap.size + 1, 0, none⟩ = some (.string sI) := S.ri.blk.cell 0 rfl
  have c1x : u24.cell? ⟨w.heap.size + 1, 1, none⟩ = some (.string sT) := S.ri.blk.cell 1 rfl
  have c2x : u24.cell? ⟨w.heap.size + 1, 2, none⟩ = some (.string sL) := S.ri.blk.cell 2 rfl
  have c3x : u24.cell? ⟨w.heap.size + 1, 3, none⟩ = some (.string sA) := S.ri.blk.cell 3 rfl
  have c4x : u24.cell? ⟨w.heap.size + 1, 4, none⟩ = some (.string sC) := S.ri.blk.cell 4 rfl
  have r0 : u24.cell? ⟨w.heap.size, 0, none⟩ = some (.string ⟨#[]⟩) := S.r6.blk.cell 0 rfl
  have q0 := S.r6.blk.free 0
  have r1 : u24.cell? ⟨w.heap.size, 1, none⟩ = some (.string ⟨#[]⟩) := S.r6.blk.cell 1 rfl
  have q1 := S.r6.blk.free 1
  have r2 : u24.cell? ⟨w.heap.size, 2, none⟩ = some (.string ⟨#[]⟩) := S.r6.blk.cell 2 rfl
  have q2 := S.r6.blk.free 2
  have r3 : u24.cell? ⟨w.heap.size, 3, none⟩ = some (.string ⟨#[]⟩) := S.r6.blk.cell 3 rfl
  have q3 := S.r6.blk.free 3
  have r4 : u24.cell? ⟨w.heap.size, 4, none⟩ = some (.string ⟨#[]⟩) := S.r6.blk.cell 4 rfl
  have q4 := S.r6.blk.free 4
  have r5 : u24.cell? ⟨w.heap.size, 5, none⟩ = some (.string ⟨#[]⟩) := S.r6.blk.cell 5 rfl
  have q5 := S.r6.blk.free 5
  have r6 : u24.cell? ⟨w.heap.size, 6, none⟩ = some (.int .i8 0) := S.r6.blk.cell 6 rfl
  have q6 := S.r6.blk.free 6
  rcases HOR.out with h1 | ⟨j, s, h1, hj, -⟩
  · injection h1 with h1 h2
    subst h1
    subst h2
    have S2 := Lib.hid (S.set (Y := ⟨sI, sT, sL, sA, sC, ⟨#[]⟩, 0⟩) 5 (.string ⟨#[]⟩) rfl)
    clear S
    go_wp2_with fail
    refine bodyPost_ret (results_cell1 rfl _ _ _ _ _ rfl (((((((S2.out.r6.set 0 _).set 1 _).set 2 _).set 3 _).set 4 _).set 5 _).set 6 _).blk Try.underlying47 rfl (by kernel_rfl)) rfl ⟨?_, ?_⟩
    · rfl
    · exact ((((((S2.out.b.setCell (Nat.le_refl _) _).setCell (Nat.le_refl _) _).setCell (Nat.le_refl _) _).setCell (Nat.le_refl _) _).setCell (Nat.le_refl _) _).setCell (Nat.le_refl _) _).setCell (Nat.le_refl _) _
  · injection h1 with h1 h2
    subst h1
    subst h2
    by_cases hje : j = 2
    · subst hje
      have S2 := Lib.hid ((S.set (Y := ⟨sI, sT, sL, sA, sC, sD, 0⟩) 5 (.string sD) rfl).set (Y := ⟨sI, sT, sL, sA, sC, sD, 3⟩) 6 (.int .i8 3) rfl)
      clear S
      go_wp2_with fail
      refine bodyPost_ret (results_cell1 rfl _ _ _ _ _ rfl (((((((S2.out.r6.set 0 _).set 1 _).set 2 _).set 3 _).set 4 _).set 5 _).set 6 _).blk Try.underlying47 rfl (by kernel_rfl)) rfl ⟨?_, ?_⟩
      · rfl
      · exact ((((((S2.out.b.setCell (Nat.le_refl _) _).setCell (Nat.le_refl _) _).setCell (Nat.le_refl _) _).setCell (Nat.le_refl _) _).setCell (Nat.le_refl _) _).setCell (Nat.le_refl _) _).setCell (Nat.le_refl _) _
    · have d1 : ((j : Int) == 2) = false := beq_eq_false_iff_ne.2 (by omega)
      have HK := Lib.hid (show kindD (j : Int) 3 = 1 by unfold kindD; rw [if_neg (by omega), if_neg (by omega)])
      have d2 := decide_eq_true (show (0 : Int) ≤ (j : Int) by omega)
      clear hje
      have S2 := Lib.hid ((S.set (Y := ⟨sI, sT, sL, sA, sC, sD, 0⟩) 5 (.string sD) rfl).set (Y := ⟨sI, sT, sL, sA, sC, sD, 1⟩) 6 (.int .i8 1) rfl)
      clear S
      go_wp2_with fail
      refine bodyPost_ret (results_cell1 rfl _ _ _ _ _ rfl (((((((S2.out.r6.set 0 _).set 1 _).set 2 _).set 3 _).set 4 _).set 5 _).set 6 _).blk Try.underlying47 rfl (by kernel_rfl)) rfl ⟨?_, ?_⟩
      · rw [HK.out]; rfl
      · exact ((((((S2.out.b.setCell (Nat.le_refl _) _).setCell (Nat.le_refl _) _).setCell (Nat.le_refl _) _).setCell (Nat.le_refl _) _).setCell (Nat.le_refl _) _).setCell (Nat.le_refl _) _).setCell (Nat.le_refl _) _
set_option maxRecDepth 100000 in
set_option maxHeartbeats 16000000 in
theorem ref23_item_1 (B : Nat) (es : List Evt) (v : Value) (w : World) (hE : REv B es v w) :
    Calls Try.prog 89 #[v, .int .i8 1, .bool false] w fun r w' => r = .returned (.agg (itV (foundP es (itemF 1)))) ∧ Below w.heap.size w w' := by
  obtain ⟨avs, ⟨a, cap, rfl, -⟩, -⟩ := id hE.f.r
  rw [show foundP es (itemF 1) = _ from foundF_it1 (fieldP es) (attrP es 0 aboutN)]
  have FE := Lib.hid (fun (u : World) (hu : Below w.heap.size w u) => hE.below hu)
  obtain ⟨nn, hnn⟩ : ∃ n, es.length = n := ⟨_, rfl⟩
  rw [hnn] at FE ⊢
  clear hE hnn
  obtain ⟨⟨sT, sTk⟩, hsT⟩ : ∃ s, fieldP es titleN = s := ⟨_, rfl⟩
  have HsT := Lib.hid (show fieldP es [(⟨#[]⟩, ⟨#[116, 105, 116, 108, 101]⟩), (spC, ⟨#[116, 105, 116, 108, 101]⟩)] = (sT, sTk) from hsT)
  rw [hsT]
  clear hsT
  obtain ⟨⟨sL, sLk⟩, hsL⟩ : ∃ s, fieldP es linkN = s := ⟨_, rfl⟩
  have HsL := Lib.hid (show fieldP es [(⟨#[]⟩, ⟨#[108, 105, 110, 107]⟩)] = (sL, sLk) from hsL)
  rw [hsL]
  clear hsL
  obtain ⟨⟨sI, sIk⟩, hsI⟩ : ∃ s, fieldP es (itemF 1).id = s := ⟨_, rfl⟩
  have HsI := Lib.hid (show fieldP es [(⟨#[]⟩, ⟨#[103, 117, 105, 100]⟩), (spC, ⟨#[105, 100, 101, 110, 116, 105, 102, 105, 101, 114]⟩)] = (sI, sIk) from hsI)
  rw [hsI]
  clear hsI
  obtain ⟨⟨sA, sAk⟩, hsA⟩ : ∃ s, fieldP es (itemF 1).author = s := ⟨_, rfl⟩
  have HsA := Lib.hid (show fieldP es [(⟨#[]⟩, ⟨#[97, 117, 116, 104, 111, 114]⟩), (spC, ⟨#[99, 114, 101, 97, 116, 111, 114]⟩)] = (sA, sAk) from hsA)
  rw [hsA]
  clear hsA
  obtain ⟨⟨sC, sCk⟩, hsC⟩ : ∃ s, fieldP es (itemF 1).content = s := ⟨_, rfl⟩
  have HsC := Lib.hid (show fieldP es [(spCon, ⟨#[101, 110, 99, 111, 100, 101, 100]⟩), (⟨#[]⟩, ⟨#[100, 101, 115, 99, 114, 105, 112, 116, 105, 111, 110]⟩), (spC, ⟨#[100, 101, 115, 99, 114, 105, 112, 116, 105, 111, 110]⟩), (⟨#[]⟩, ⟨#[115, 117, 109, 109, 97, 114, 121]⟩)] = (sC, sCk) from hsC)
  rw [hsC]
  clear hsC
  obtain ⟨⟨sD, sDk⟩, hsD⟩ : ∃ s, fieldP es (itemF 1).date = s := ⟨_, rfl⟩
  have HsD := Lib.hid (show fieldP es [(⟨#[]⟩, ⟨#[112, 117, 98, 68, 97, 116, 101]⟩), (spC, ⟨#[100, 97, 116, 101]⟩)] = (sD, sDk) from hsD)
  rw [hsD]
  have HOR := Lib.hid (show (sD, sDk) = (⟨#[]⟩, -1) ∨ ∃ j s, (sD, sDk) = (s, ((j : Nat) : Int)) ∧ j < 2 ∧ blankN (nums s) = false by rw [← hsD]; exact fieldP_or es (itemF 1).date)
  clear hsD
  simp only
  have S := DIt.new w
  go_enter Try.func89, Try.ntmps89
  go_wp2_with fail
  generalize (w.alloc (.cells #[.string ⟨#[]⟩, .string ⟨#[]⟩, .string ⟨#[]⟩, .string ⟨#[]⟩, .string ⟨#[]⟩, .string ⟨#[]⟩, .int .i8 0] 47)).alloc (.cells #[.string ⟨#[]⟩, .string ⟨#[]⟩, .string ⟨#[]⟩, .string ⟨#[]⟩, .string ⟨#[]⟩, .string ⟨#[]⟩, .int .i8 0] 47) = u0 at S ⊢
  refine (ref23_plain ⟨#[116, 105, 116, 108, 101]⟩ _).mono ?_
  rintro r u1 ⟨rfl, hb⟩
  replace S := S.up hb
  clear hb
  go_wp2_with fail
  refine (ref23_of ⟨#[116, 105, 116, 108, 101]⟩ _).mono ?_
  rintro r u2 ⟨rfl, hb⟩
  replace S := S.up hb
  clear hb
  have S1 := S.row #[.string ⟨#[]⟩, .string ⟨#[116, 105, 116, 108, 101]⟩, .string spC, .string ⟨#[116, 105, 116, 108, 101]⟩] [(⟨#[]⟩, ⟨#[116, 105, 116, 108, 101]⟩), (spC, ⟨#[116, 105, 116, 108, 101]⟩)] 2 rfl rfl
  have hF := ref23_Field B es _ [(⟨#[]⟩, ⟨#[116, 105, 116, 108, 101]⟩), (spC, ⟨#[116, 105, 116, 108, 101]⟩)] _ _ (FE.out _ S1.b) (S1.ns (List.mem_cons_self ..)) (by decide)
  rw [HsT.out] at hF
  have HF := Lib.hid hF
  clear hF
  go_wp2_with fail
  refine HF.out.mono ?_
  rintro r u3 ⟨rfl, hb⟩
  replace S := (S1.up hb).tail
  clear S1 hb HF
  have c0 : u3.cell? ⟨w.heap.size + 1, 1, none⟩ = some (.string ⟨#[]⟩) := S.ri.blk.cell 1 rfl
  have f0 := S.ri.blk.free 1
  have S1 := Lib.hid (S.set (Y := ⟨⟨#[]⟩, sT, ⟨#[]⟩, ⟨#[]⟩, ⟨#[]⟩, ⟨#[]⟩, 0⟩) 1 (.string sT) rfl)
  clear S
  go_wp2_with fail
  have S := S1.out
  generalize u3.setCell ⟨w.heap.size + 1, 1, none⟩ (.string sT) = u4 at S ⊢
  clear S1 c0 f0
  refine (ref23_plain ⟨#[108, 105, 110, 107]⟩ _).mono ?_
  rintro r u5 ⟨rfl, hb⟩
  replace S := S.up hb
  clear hb
  have S1 := S.row #[.string ⟨#[]⟩, .string ⟨#[108, 105, 110, 107]⟩] [(⟨#[]⟩, ⟨#[108, 105, 110, 107]⟩)] 1 rfl rfl
  have hF := ref23_Field B es _ [(⟨#[]⟩, ⟨#[108, 105, 110, 107]⟩)] _ _ (FE.out _ S1.b) (S1.ns (List.mem_cons_self ..)) (by decide)
  rw [HsL.out] at hF
  have HF := Lib.hid hF
  clear hF
  go_wp2_with fail
  refine HF.out.mono ?_
  rintro r u6 ⟨rfl, hb⟩
  replace S := (S1.up hb).tail
  clear S1 hb HF
  have c0 : u6.cell? ⟨w.heap.size + 1, 2, none⟩ = some (.string ⟨#[]⟩) := S.ri.blk.cell 2 rfl
  have f0 := S.ri.blk.free 2
  have S1 := Lib.hid (S.set (Y := ⟨⟨#[]⟩, sT, sL, ⟨#[]⟩, ⟨#[]⟩, ⟨#[]⟩, 0⟩) 2 (.string sL) rfl)
  clear S
  go_wp2_with fail
  have S := S1.out
  generalize u6.setCell ⟨w.heap.size + 1, 2, none⟩ (.string sL) = u7 at S ⊢
  clear S1 c0 f0
  refine (ref23_of ⟨#[105, 100, 101, 110, 116, 105, 102, 105, 101, 114]⟩ _).mono ?_
  rintro r u8 ⟨rfl, hb⟩
  replace S := S.up hb
  clear hb
  have S1 := S.row #[.string spC, .string ⟨#[105, 100, 101, 110, 116, 105, 102, 105, 101, 114]⟩] [(spC, ⟨#[105, 100, 101, 110, 116, 105, 102, 105, 101, 114]⟩)] 1 rfl rfl
  go_wp2_with fail
  generalize u8.alloc (.cells #[.string spC, .string ⟨#[105, 100, 101, 110, 116, 105, 102, 105, 101, 114]⟩] 24) = u9 at S1 ⊢
  generalize u8.heap.size = q9 at S1 ⊢
  replace S := S1
  clear S1
  refine (ref23_of ⟨#[99, 114, 101, 97, 116, 111, 114]⟩ _).mono ?_
  rintro r u10 ⟨rfl, hb⟩
  replace S := S.up hb
  clear hb
  have S1 := S.row #[.string spC, .string ⟨#[99, 114, 101, 97, 116, 111, 114]⟩] [(spC, ⟨#[99, 114, 101, 97, 116, 111, 114]⟩)] 1 rfl rfl
  go_wp2_with fail
  generalize u10.alloc (.cells #[.string spC, .string ⟨#[99, 114, 101, 97, 116, 111, 114]⟩] 24) = u11 at S1 ⊢
  generalize u10.heap.size = q11 at S1 ⊢
  replace S := S1
  clear S1
  refine (ref23_of ⟨#[100, 101, 115, 99, 114, 105, 112, 116, 105, 111, 110]⟩ _).mono ?_
  rintro r u12 ⟨rfl, hb⟩
  replace S := S.up hb
  clear hb
  have S1 := S.row #[.string spC, .string ⟨#[100, 101, 115, 99, 114, 105, 112, 116, 105, 111, 110]⟩] [(spC, ⟨#[100, 101, 115, 99, 114, 105, 112, 116, 105, 111, 110]⟩)] 1 rfl rfl
  go_wp2_with fail
  generalize u12.alloc (.cells #[.string spC, .string ⟨#[100, 101, 115, 99, 114, 105, 112, 116, 105, 111, 110]⟩] 24) = u13 at S1 ⊢
  generalize u12.heap.size = q13 at S1 ⊢
  replace S := S1
  clear S1
  refine (ref23_plain ⟨#[108, 97, 115, 116, 66, 117, 105, 108, 100, 68, 97, 116, 101]⟩ _).mono ?_
  rintro r u14 ⟨rfl, hb⟩
  replace S := S.up hb
  clear hb
  go_wp2_with fail
  refine (ref23_plain ⟨#[112, 117, 98, 68, 97, 116, 101]⟩ _).mono ?_
  rintro r u15 ⟨rfl, hb⟩
  replace S := S.up hb
  clear hb
  go_wp2_with fail
  refine (ref23_of ⟨#[100, 97, 116, 101]⟩ _).mono ?_
  rintro r u16 ⟨rfl, hb⟩
  replace S := S.up hb
  clear hb
  have S1 := S.row #[.string ⟨#[]⟩, .string ⟨#[108, 97, 115, 116, 66, 117, 105, 108, 100, 68, 97, 116, 101]⟩, .string ⟨#[]⟩, .string ⟨#[112, 117, 98, 68, 97, 116, 101]⟩, .string spC, .string ⟨#[100, 97, 116, 101]⟩] [(⟨#[]⟩, ⟨#[108, 97, 115, 116, 66, 117, 105, 108, 100, 68, 97, 116, 101]⟩), (⟨#[]⟩, ⟨#[112, 117, 98, 68, 97, 116, 101]⟩), (spC, ⟨#[100, 97, 116, 101]⟩)] 3 rfl rfl
  go_wp2_with fail
  generalize u16.alloc (.cells #[.string ⟨#[]⟩, .string ⟨#[108, 97, 115, 116, 66, 117, 105, 108, 100, 68, 97, 116, 101]⟩, .string ⟨#[]⟩, .string ⟨#[112, 117, 98, 68, 97, 116, 101]⟩, .string spC, .string ⟨#[100, 97, 116, 101]⟩] 24) = u17 at S1 ⊢
  generalize u16.heap.size = q17 at S1 ⊢
  replace S := S1
  clear S1
  refine (ref23_plain ⟨#[97, 117, 116, 104, 111, 114]⟩ _).mono ?_
  rintro r u18 ⟨rfl, hb⟩
  replace S := S.up hb
  clear hb
  go_wp2_with fail
  refine (ref23_of ⟨#[99, 114, 101, 97, 116, 111, 114]⟩ _).mono ?_
  rintro r u19 ⟨rfl, hb⟩
  replace S := S.up hb
  clear hb
  have S1 := S.row #[.string ⟨#[]⟩, .string ⟨#[97, 117, 116, 104, 111, 114]⟩, .string spC, .string ⟨#[99, 114, 101, 97, 116, 111, 114]⟩] [(⟨#[]⟩, ⟨#[97, 117, 116, 104, 111, 114]⟩), (spC, ⟨#[99, 114, 101, 97, 116, 111, 114]⟩)] 2 rfl rfl
  go_wp2_with fail
  generalize u19.alloc (.cells #[.string ⟨#[]⟩, .string ⟨#[97, 117, 116, 104, 111, 114]⟩, .string spC, .string ⟨#[99, 114, 101, 97, 116, 111, 114]⟩] 24) = u20 at S1 ⊢
  generalize u19.heap.size = q20 at S1 ⊢
  replace S := S1
  clear S1
  refine (ref23_plain ⟨#[100, 101, 115, 99, 114, 105, 112, 116, 105, 111, 110]⟩ _).mono ?_
  rintro r u21 ⟨rfl, hb⟩
  replace S := S.up hb
  clear hb
  go_wp2_with fail
  refine (ref23_of ⟨#[100, 101, 115, 99, 114, 105, 112, 116, 105, 111, 110]⟩ _).mono ?_
  rintro r u22 ⟨rfl, hb⟩
  replace S := S.up hb
  clear hb
  go_wp2_with fail
  refine (ref23_plain ⟨#[115, 117, 109, 109, 97, 114, 121]⟩ _).mono ?_
  rintro r u23 ⟨rfl, hb⟩
  replace S := S.up hb
  clear hb
  have S1 := S.row #[.string ⟨#[104, 116, 116, 112, 58, 47, 47, 112, 117, 114, 108, 46, 111, 114, 103, 47, 114, 115, 115, 47, 49, 46, 48, 47, 109, 111, 100, 117, 108, 101, 115, 47, 99, 111, 110, 116, 101, 110, 116, 47]⟩, .string ⟨#[101, 110, 99, 111, 100, 101, 100]⟩, .string ⟨#[]⟩, .string ⟨#[100, 101, 115, 99, 114, 105, 112, 116, 105, 111, 110]⟩, .string spC, .string ⟨#[100, 101, 115, 99, 114, 105, 112, 116, 105, 111, 110]⟩, .string ⟨#[]⟩, .string ⟨#[115, 117, 109, 109, 97, 114, 121]⟩] [(spCon, ⟨#[101, 110, 99, 111, 100, 101, 100]⟩), (⟨#[]⟩, ⟨#[100, 101, 115, 99, 114, 105, 112, 116, 105, 111, 110]⟩), (spC, ⟨#[100, 101, 115, 99, 114, 105, 112, 116, 105, 111, 110]⟩), (⟨#[]⟩, ⟨#[115, 117, 109, 109, 97, 114, 121]⟩)] 4 rfl rfl
  go_wp2_with fail
  generalize u23.alloc (.cells #[.string ⟨#[104, 116, 116, 112, 58, 47, 47, 112, 117, 114, 108, 46, 111, 114, 103, 47, 114, 115, 115, 47, 49, 46, 48, 47, 109, 111, 100, 117, 108, 101, 115, 47, 99, 111, 110, 116, 101, 110, 116, 47]⟩, .string ⟨#[101, 110, 99, 111, 100, 101, 100]⟩, .string ⟨#[]⟩, .string ⟨#[100, 101, 115, 99, 114, 105, 112, 116, 105, 111, 110]⟩, .string spC, .string ⟨#[100, 101, 115, 99, 114, 105, 112, 116, 105, 111, 110]⟩, .string ⟨#[]⟩, .string ⟨#[115, 117, 109, 109, 97, 114, 121]⟩] 24) = u24 at S1 ⊢
  generalize u23.heap.size = q24 at S1 ⊢
  replace S := S1
  clear S1
  refine (ref23_plain ⟨#[112, 117, 98, 68, 97, 116, 101]⟩ _).mono ?_
  rintro r u25 ⟨rfl, hb⟩
  replace S := S.up hb
  clear hb
  go_wp2_with fail
  refine (ref23_of ⟨#[100, 97, 116, 101]⟩ _).mono ?_
  rintro r u26 ⟨rfl, hb⟩
  replace S := S.up hb
  clear hb
  have S1 := S.row #[.string ⟨#[]⟩, .string ⟨#[112, 117, 98, 68, 97, 116, 101]⟩, .string spC, .string ⟨#[100, 97, 116, 101]⟩] [(⟨#[]⟩, ⟨#[112, 117, 98, 68, 97, 116, 101]⟩), (spC, ⟨#[100, 97, 116, 101]⟩)] 2 rfl rfl
  go_wp2_with fail
  generalize u26.alloc (.cells #[.string ⟨#[]⟩, .string ⟨#[112, 117, 98, 68, 97, 116, 101]⟩, .string spC, .string ⟨#[100, 97, 116, 101]⟩] 24) = u27 at S1 ⊢
  generalize u26.heap.size = q27 at S1 ⊢
  replace S := S1
  clear S1
  refine (ref23_plain ⟨#[103, 117, 105, 100]⟩ _).mono ?_
  rintro r u28 ⟨rfl, hb⟩
  replace S := S.up hb
  clear hb
  go_wp2_with fail
  refine (ref23_of ⟨#[105, 100, 101, 110, 116, 105, 102, 105, 101, 114]⟩ _).mono ?_
  rintro r u29 ⟨rfl, hb⟩
  replace S := S.up hb
  clear hb
  have S1 := S.row #[.string ⟨#[]⟩, .string ⟨#[103, 117, 105, 100]⟩, .string spC, .string ⟨#[105, 100, 101, 110, 116, 105, 102, 105, 101, 114]⟩] [(⟨#[]⟩, ⟨#[103, 117, 105, 100]⟩), (spC, ⟨#[105, 100, 101, 110, 116, 105, 102, 105, 101, 114]⟩)] 2 rfl rfl
  go_wp2_with fail
  generalize u29.alloc (.cells #[.string ⟨#[]⟩, .string ⟨#[103, 117, 105, 100]⟩, .string spC, .string ⟨#[105, 100, 101, 110, 116, 105, 102, 105, 101, 114]⟩] 24) = u30 at S1 ⊢
  generalize u29.heap.size = q30 at S1 ⊢
  replace S := S1
  clear S1
  have hF := ref23_Field B es _ [(⟨#[]⟩, ⟨#[103, 117, 105, 100]⟩), (spC, ⟨#[105, 100, 101, 110, 116, 105, 102, 105, 101, 114]⟩)] _ _ (FE.out _ S.b) (S.ns (List.mem_cons_self ..)) (by decide)
  rw [HsI.out] at hF
  have HF := Lib.hid hF
  clear hF
  refine HF.out.mono ?_
  rintro r u31 ⟨rfl, hb⟩
  replace S := S.up hb
  clear hb HF
  have c0 : u31.cell? ⟨w.heap.size + 1, 0, none⟩ = some (.string ⟨#[]⟩) := S.ri.blk.cell 0 rfl
  have f0 := S.ri.blk.free 0
  have S1 := Lib.hid (S.set (Y := ⟨sI, sT, sL, ⟨#[]⟩, ⟨#[]⟩, ⟨#[]⟩, 0⟩) 0 (.string sI) rfl)
  clear S
  go_wp2_with fail
  have S := S1.out
  generalize u31.setCell ⟨w.heap.size + 1, 0, none⟩ (.string sI) = u32 at S ⊢
  clear S1 c0 f0
  have hF := ref23_Field B es _ [(⟨#[]⟩, ⟨#[97, 117, 116, 104, 111, 114]⟩), (spC, ⟨#[99, 114, 101, 97, 116, 111, 114]⟩)] _ _ (FE.out _ S.b) (S.ns (List.mem_cons_of_mem _ (List.mem_cons_of_mem _ (List.mem_cons_of_mem _ (List.mem_cons_self ..))))) (by decide)
  rw [HsA.out] at hF
  have HF := Lib.hid hF
  clear hF
  refine HF.out.mono ?_
  rintro r u33 ⟨rfl, hb⟩
  replace S := S.up hb
  clear hb HF
  have c0 : u33.cell? ⟨w.heap.size + 1, 3, none⟩ = some (.string ⟨#[]⟩) := S.ri.blk.cell 3 rfl
  have f0 := S.ri.blk.free 3
  have S1 := Lib.hid (S.set (Y := ⟨sI, sT, sL, sA, ⟨#[]⟩, ⟨#[]⟩, 0⟩) 3 (.string sA) rfl)
  clear S
  go_wp2_with fail
  have S := S1.out
  generalize u33.setCell ⟨w.heap.size + 1, 3, none⟩ (.string sA) = u34 at S ⊢
  clear S1 c0 f0
  have hF := ref23_Field B es _ [(spCon, ⟨#[101, 110, 99, 111, 100, 101, 100]⟩), (⟨#[]⟩, ⟨#[100, 101, 115, 99, 114, 105, 112, 116, 105, 111, 110]⟩), (spC, ⟨#[100, 101, 115, 99, 114, 105, 112, 116, 105, 111, 110]⟩), (⟨#[]⟩, ⟨#[115, 117, 109, 109, 97, 114, 121]⟩)] _ _ (FE.out _ S.b) (S.ns (List.mem_cons_of_mem _ (List.mem_cons_of_mem _ (List.mem_cons_self ..)))) (by decide)
  rw [HsC.out] at hF
  have HF := Lib.hid hF
  clear hF
  refine HF.out.mono ?_
  rintro r u35 ⟨rfl, hb⟩
  replace S := S.up hb
  clear hb HF
  have c0 : u35.cell? ⟨w.heap.size + 1, 4, none⟩ = some (.string ⟨#[]⟩) := S.ri.blk.cell 4 rfl
  have f0 := S.ri.blk.free 4
  have S1 := Lib.hid (S.set (Y := ⟨sI, sT, sL, sA, sC, ⟨#[]⟩, 0⟩) 4 (.string sC) rfl)
  clear S
  go_wp2_with fail
  have S := S1.out
  generalize u35.setCell ⟨w.heap.size + 1, 4, none⟩ (.string sC) = u36 at S ⊢
  clear S1 c0 f0
  have hF := ref23_Field B es _ [(⟨#[]⟩, ⟨#[112, 117, 98, 68, 97, 116, 101]⟩), (spC, ⟨#[100, 97, 116, 101]⟩)] _ _ (FE.out _ S.b) (S.ns (List.mem_cons_of_mem _ (List.mem_cons_self ..))) (by decide)
  rw [HsD.out] at hF
  have HF := Lib.hid hF
  clear hF
  refine HF.out.mono ?_
  rintro r u37 ⟨rfl, hb⟩
  replace S := S.up hb
  clear hb HF
  have c0 : u37.cell? ⟨w.heap.size + 1, 5, none⟩ = some (.string ⟨#[]⟩) := S.ri.blk.cell 5 rfl
  have f0 := S.ri.blk.free 5
  have c6 : u37.cell? ⟨w.heap.size + 1, 6, none⟩ = some (.int .i8 0) := S.ri.blk.cell 6 rfl
  have f6 := S.ri.blk.free 6
  have c0x : u37.cell? ⟨w.heap.size + 1, 0, none⟩ = some (.string sI) := S.ri.blk.cell 0 rfl
  have c1x : u37.cell? ⟨w.heap.size + 1, 1, none⟩ = some (.string sT) := S.ri.blk.cell 1 rfl
  have c2x : u37.cell? ⟨w.heap.size + 1, 2, none⟩ = some (.string sL) := S.ri.blk.cell 2 rfl
  have c3x : u37.cell? ⟨w.heap.size + 1, 3, none⟩ = some (.string sA) := S.ri.blk.cell 3 rfl
  have c4x : u37.cell? ⟨w.heap.size + 1, 4, none⟩ = some (.string sC) := S.ri.blk.cell 4 rfl
  have r0 : u37.cell? ⟨w.heap.size, 0, none⟩ = some (.string ⟨#[]⟩) := S.r6.blk.cell 0 rfl
  have q0 := S.r6.blk.free 0
  have r1 : u37.cell? ⟨w.heap.size, 1, none⟩ = some (.string ⟨#[]⟩) := S.r6.blk.cell 1 rfl
  have q1 := S.r6.blk.free 1
  have r2 : u37.cell? ⟨w.heap.size, 2, none⟩ = some (.string ⟨#[]⟩) := S.r6.blk.cell 2 rfl
  have q2 := S.r6.blk.free 2
  have r3 : u37.cell? ⟨w.heap.size, 3, none⟩ = some (.string ⟨#[]⟩) := S.r6.blk.cell 3 rfl
  have q3 := S.r6.blk.free 3
  have r4 : u37.cell? ⟨w.heap.size, 4, none⟩ = some (.string ⟨#[]⟩) := S.r6.blk.cell 4 rfl
  have q4 := S.r6.blk.free 4
  have r5 : u37.cell? ⟨w.heap.size, 5, none⟩ = some (.string ⟨#[]⟩) := S.r6.blk.cell 5 rfl
  have q5 := S.r6.blk.free 5
  have r6 : u37.cell? ⟨w.heap.size, 6, none⟩ = some (.int .i8 0) := S.r6.blk.cell 6 rfl
  have q6 := S.r6.blk.free 6
  rcases HOR.out with h1 | ⟨j, s, h1, hj, -⟩
  · injection h1 with h1 h2
    subst h1
    subst h2
    have S2 := Lib.hid (S.set (Y := ⟨sI, sT, sL, sA, sC, ⟨#[]⟩, 0⟩) 5 (.string ⟨#[]⟩) rfl)
    clear S
    go_wp2_with fail
    refine bodyPost_ret (results_cell1 rfl _ _ _ _ _ rfl (((((((S2.out.r6.set 0 _).set 1 _).set 2 _).set 3 _).set 4 _).set 5 _).set 6 _).blk Try.underlying47 rfl (by kernel_rfl)) rfl ⟨?_, ?_⟩
    · rfl
    · exact ((((((S2.out.b.setCell (Nat.le_refl _) _).setCell (Nat.le_refl _) _).setCell (Nat.le_refl _) _).setCell (Nat.le_refl _) _).setCell (Nat.le_refl _) _).setCell (Nat.le_refl _) _).setCell (Nat.le_refl _) _
  · injection h1 with h1 h2
    subst h1
    subst h2
    by_cases hje : j = 1
    · subst hje
      have S2 := Lib.hid ((S.set (Y := ⟨sI, sT, sL, sA, sC, sD, 0⟩) 5 (.string sD) rfl).set (Y := ⟨sI, sT, sL, sA, sC, sD, 3⟩) 6 (.int .i8 3) rfl)
      clear S
      go_wp2_with fail
      refine bodyPost_ret (results_cell1 rfl _ _ _ _ _ rfl (((((((S2.out.r6.set 0 _).set 1 _).set 2 _).set 3 _).set 4 _).set 5 _).set 6 _).blk Try.underlying47 rfl (by kernel_rfl)) rfl ⟨?_, ?_⟩
      · rfl
      · exact ((((((S2.out.b.setCell (Nat.le_refl _) _).setCell (Nat.le_refl _) _).setCell (Nat.le_refl _) _).setCell (Nat.le_refl _) _).setCell (Nat.le_refl _) _).setCell (Nat.le_refl _) _).setCell (Nat.le_refl _) _
    · have d1 : ((j : Int) == 1) = false := beq_eq_false_iff_ne.2 (by omega)
      have HK := Lib.hid (show kindD (j : Int) 2 = 1 by unfold kindD; rw [if_neg (by omega), if_neg (by omega)])
      have d2 := decide_eq_true (show (0 : Int) ≤ (j : Int) by omega)
      clear hje
      have S2 := Lib.hid ((S.set (Y := ⟨sI, sT, sL, sA, sC, sD, 0⟩) 5 (.string sD) rfl).set (Y := ⟨sI, sT, sL, sA, sC, sD, 1⟩) 6 (.int .i8 1) rfl)
      clear S
      go_wp2_with fail
      refine bodyPost_ret (results_cell1 rfl _ _ _ _ _ rfl (((((((S2.out.r6.set 0 _).set 1 _).set 2 _).set 3 _).set 4 _).set 5 _).set 6 _).blk Try.underlying47 rfl (by kernel_rfl)) rfl ⟨?_, ?_⟩
      · rw [HK.out]; rfl
      · exact ((((((S2.out.b.setCell (Nat.le_refl _) _).setCell (Nat.le_refl _) _).setCell (Nat.le_refl _) _).setCell (Nat.le_refl _) _).setCell (Nat.le_refl _) _).setCell (Nat.le_refl _) _).setCell (Nat.le_refl _) _
set_option maxRecDepth 100000 in
set_option maxHeartbeats 16000000 in
theorem ref23_item_2 (B : Nat) (es : List Evt) (v : Value) (w : World) (hE : REv B es v w) :
    Calls Try.prog 89 #[v, .int .i8 2, .bool false] w fun r w' => r = .returned (.agg (itV (foundP es (itemF 2)))) ∧ Below w.heap.size w w' := by
  obtain ⟨avs, ⟨a, cap, rfl, -⟩, -⟩ := id hE.f.r
  rw [show foundP es (itemF 2) = _ from foundF_it2 (fieldP es) (attrP es 0 aboutN)]
  have FE := Lib.hid (fun (u : World) (hu : Below w.heap.size w u) => hE.below hu)
  have hRs : ∀ s, attrP es 0 aboutN = some s → s.size ≤ 137438953472 := fun s h => attr_size h hE.a
  obtain ⟨nn, hnn⟩ : ∃ n, es.length = n := ⟨_, rfl⟩
  rw [hnn] at FE ⊢
  clear hE hnn
  obtain ⟨⟨sT, sTk⟩, hsT⟩ : ∃ s, fieldP es titleN = s := ⟨_, rfl⟩
  have HsT := Lib.hid (show fieldP es [(⟨#[]⟩, ⟨#[116, 105, 116, 108, 101]⟩), (spC, ⟨#[116, 105, 116, 108, 101]⟩)] = (sT, sTk) from hsT)
  rw [hsT]
  clear hsT
  obtain ⟨⟨sL, sLk⟩, hsL⟩ : ∃ s, fieldP es linkN = s := ⟨_, rfl⟩
  have HsL := Lib.hid (show fieldP es [(⟨#[]⟩, ⟨#[108, 105, 110, 107]⟩)] = (sL, sLk) from hsL)
  rw [hsL]
  clear hsL
  obtain ⟨⟨sI, sIk⟩, hsI⟩ : ∃ s, fieldP es (itemF 2).id = s := ⟨_, rfl⟩
  have HsI := Lib.hid (show fieldP es [(spC, ⟨#[105, 100, 101, 110, 116, 105, 102, 105, 101, 114]⟩)] = (sI, sIk) from hsI)
  rw [hsI]
  clear hsI
  obtain ⟨⟨sA, sAk⟩, hsA⟩ : ∃ s, fieldP es (itemF 2).author = s := ⟨_, rfl⟩
  have HsA := Lib.hid (show fieldP es [(⟨#[]⟩, ⟨#[97, 117, 116, 104, 111, 114]⟩), (spC, ⟨#[99, 114, 101, 97, 116, 111, 114]⟩)] = (sA, sAk) from hsA)
  rw [hsA]
  clear hsA
  obtain ⟨⟨sC, sCk⟩, hsC⟩ : ∃ s, fieldP es (itemF 2).content = s := ⟨_, rfl⟩
  have HsC := Lib.hid (show fieldP es [(spCon, ⟨#[101, 110, 99, 111, 100, 101, 100]⟩), (⟨#[]⟩, ⟨#[100, 101, 115, 99, 114, 105, 112, 116, 105, 111, 110]⟩), (spC, ⟨#[100, 101, 115, 99, 114, 105, 112, 116, 105, 111, 110]⟩), (⟨#[]⟩, ⟨#[115, 117, 109, 109, 97, 114, 121]⟩)] = (sC, sCk) from hsC)
  rw [hsC]
  clear hsC
  obtain ⟨⟨sD, sDk⟩, hsD⟩ : ∃ s, fieldP es (itemF 2).date = s := ⟨_, rfl⟩
  have HsD := Lib.hid (show fieldP es [(⟨#[]⟩, ⟨#[112, 117, 98, 68, 97, 116, 101]⟩), (spC, ⟨#[100, 97, 116, 101]⟩)] = (sD, sDk) from hsD)
  rw [hsD]
  have HOR := Lib.hid (show (sD, sDk) = (⟨#[]⟩, -1) ∨ ∃ j s, (sD, sDk) = (s, ((j : Nat) : Int)) ∧ j < 2 ∧ blankN (nums s) = false by rw [← hsD]; exact fieldP_or es (itemF 2).date)
  clear hsD
  obtain ⟨R, hR⟩ : ∃ R, attrP es 0 aboutN = R := ⟨_, rfl⟩
  have HRR := Lib.hid (show attrP es 0 (⟨#[104, 116, 116, 112, 58, 47, 47, 119, 119, 119, 46, 119, 51, 46, 111, 114, 103, 47, 49, 57, 57, 57, 47, 48, 50, 47, 50, 50, 45, 114, 100, 102, 45, 115, 121, 110, 116, 97, 120, 45, 110, 115, 35]⟩, ⟨#[97, 98, 111, 117, 116]⟩) = R from hR)
  rw [hR] at hRs ⊢
  clear hR
  obtain ⟨iv, hiv⟩ : ∃ s, idF true R sI = s := ⟨_, rfl⟩
  have HIV := Lib.hid hiv
  rw [hiv]
  clear hiv
  simp only
  have S := DIt.new w
  go_enter Try.func89, Try.ntmps89
  go_wp2_with fail
  generalize (w.alloc (.cells #[.string ⟨#[]⟩, .string ⟨#[]⟩, .string ⟨#[]⟩, .string ⟨#[]⟩, .string ⟨#[]⟩, .string ⟨#[]⟩, .int .i8 0] 47)).alloc (.cells #[.string ⟨#[]⟩, .string ⟨#[]⟩, .string ⟨#[]⟩, .string ⟨#[]⟩, .string ⟨#[]⟩, .string ⟨#[]⟩, .int .i8 0] 47) = u0 at S ⊢
  refine (ref23_plain ⟨#[116, 105, 116, 108, 101]⟩ _).mono ?_
  rintro r u1 ⟨rfl, hb⟩
  replace S := S.up hb
  clear hb
  go_wp2_with fail
  refine (ref23_of ⟨#[116, 105, 116, 108, 101]⟩ _).mono ?_
  rintro r u2 ⟨rfl, hb⟩
  replace S := S.up hb
  clear hb
  have S1 := S.row #[.string ⟨#[]⟩, .string ⟨#[116, 105, 116, 108, 101]⟩, .string spC, .string ⟨#[116, 105, 116, 108, 101]⟩] [(⟨#[]⟩, ⟨#[116, 105, 116, 108, 101]⟩), (spC, ⟨#[116, 105, 116, 108, 101]⟩)] 2 rfl rfl
  have hF := ref23_Field B es _ [(⟨#[]⟩, ⟨#[116, 105, 116, 108, 101]⟩), (spC, ⟨#[116, 105, 116, 108, 101]⟩)] _ _ (FE.out _ S1.b) (S1.ns (List.mem_cons_self ..)) (by decide)
  rw [HsT.out] at hF
  have HF := Lib.hid hF
  clear hF
  go_wp2_with fail
  refine HF.out.mono ?_
  rintro r u3 ⟨rfl, hb⟩
  replace S := (S1.up hb).tail
  clear S1 hb HF
  have c0 : u3.cell? ⟨w.heap.size + 1, 1, none⟩ = some (.string ⟨#[]⟩) := S.ri.blk.cell 1 rfl
  have f0 := S.ri.blk.free 1
  have S1 := Lib.hid (S.set (Y := ⟨⟨#[]⟩, sT, ⟨#[]⟩, ⟨#[]⟩, ⟨#[]⟩, ⟨#[]⟩, 0⟩) 1 (.string sT) rfl)
  clear S
  go_wp2_with fail
  have S := S1.out
  generalize u3.setCell ⟨w.heap.size + 1, 1, none⟩ (.string sT) = u4 at S ⊢
  clear S1 c0 f0
  refine (ref23_plain ⟨#[108, 105, 110, 107]⟩ _).mono ?_
  rintro r u5 ⟨rfl, hb⟩
  replace S := S.up hb
  clear hb
  have S1 := S.row #[.string ⟨#[]⟩, .string ⟨#[108, 105, 110, 107]⟩] [(⟨#[]⟩, ⟨#[108, 105, 110, 107]⟩)] 1 rfl rfl
  have hF := ref23_Field B es _ [(⟨#[]⟩, ⟨#[108, 105, 110, 107]⟩)] _ _ (FE.out _ S1.b) (S1.ns (List.mem_cons_self ..)) (by decide)
  rw [HsL.out] at hF
  have HF := Lib.hid hF
  clear hF
  go_wp2_with fail
  refine HF.out.mono ?_
  rintro r u6 ⟨rfl, hb⟩
  replace S := (S1.up hb).tail
  clear S1 hb HF
  have c0 : u6.cell? ⟨w.heap.size + 1, 2, none⟩ = some (.string ⟨#[]⟩) := S.ri.blk.cell 2 rfl
  have f0 := S.ri.blk.free 2
  have S1 := Lib.hid (S.set (Y := ⟨⟨#[]⟩, sT, sL, ⟨#[]⟩, ⟨#[]⟩, ⟨#[]⟩, 0⟩) 2 (.string sL) rfl)
  clear S
  go_wp2_with fail
  have S := S1.out
  generalize u6.setCell ⟨w.heap.size + 1, 2, none⟩ (.string sL) = u7 at S ⊢
  clear S1 c0 f0
  refine (ref23_of ⟨#[105, 100, 101, 110, 116, 105, 102, 105, 101, 114]⟩ _).mono ?_
  rintro r u8 ⟨rfl, hb⟩
  replace S := S.up hb
  clear hb
  have S1 := S.row #[.string spC, .string ⟨#[105, 100, 101, 110, 116, 105, 102, 105, 101, 114]⟩] [(spC, ⟨#[105, 100, 101, 110, 116, 105, 102, 105, 101, 114]⟩)] 1 rfl rfl
  go_wp2_with fail
  generalize u8.alloc (.cells #[.string spC, .string ⟨#[105, 100, 101, 110, 116, 105, 102, 105, 101, 114]⟩] 24) = u9 at S1 ⊢
  generalize u8.heap.size = q9 at S1 ⊢
  replace S := S1
  clear S1
  refine (ref23_of ⟨#[99, 114, 101, 97, 116, 111, 114]⟩ _).mono ?_
  rintro r u10 ⟨rfl, hb⟩
  replace S := S.up hb
  clear hb
  have S1 := S.row #[.string spC, .string ⟨#[99, 114, 101, 97, 116, 111, 114]⟩] [(spC, ⟨#[99, 114, 101, 97, 116, 111, 114]⟩)] 1 rfl rfl
  go_wp2_with fail
  generalize u10.alloc (.cells #[.string spC, .string ⟨#[99, 114, 101, 97, 116, 111, 114]⟩] 24) = u11 at S1 ⊢
  generalize u10.heap.size = q11 at S1 ⊢
  replace S := S1
  clear S1
  refine (ref23_of ⟨#[100, 101, 115, 99, 114, 105, 112, 116, 105, 111, 110]⟩ _).mono ?_
  rintro r u12 ⟨rfl, hb⟩
  replace S := S.up hb
  clear hb
  have S1 := S.row #[.string spC, .string ⟨#[100, 101, 115, 99, 114, 105, 112, 116, 105, 111, 110]⟩] [(spC, ⟨#[100, 101, 115, 99, 114, 105, 112, 116, 105, 111, 110]⟩)] 1 rfl rfl
  go_wp2_with fail
  generalize u12.alloc (.cells #[.string spC, .string ⟨#[100, 101, 115, 99, 114, 105, 112, 116, 105, 111, 110]⟩] 24) = u13 at S1 ⊢
  generalize u12.heap.size = q13 at S1 ⊢
  replace S := S1
  clear S1
  refine (ref23_plain ⟨#[108, 97, 115, 116, 66, 117, 105, 108, 100, 68, 97, 116, 101]⟩ _).mono ?_
  rintro r u14 ⟨rfl, hb⟩
  replace S := S.up hb
  clear hb
  go_wp2_with fail
  refine (ref23_plain ⟨#[112, 117, 98, 68, 97, 116, 101]⟩ _).mono ?_
  rintro r u15 ⟨rfl, hb⟩
  replace S := S.up hb
  clear hb
  go_wp2_with fail
  refine (ref23_of ⟨#[100, 97, 116, 101]⟩ _).mono ?_
  rintro r u16 ⟨rfl, hb⟩
  replace S := S.up hb
  clear hb
  have S1 := S.row #[.string ⟨#[]⟩, .string ⟨#[108, 97, 115, 116, 66, 117, 105, 108, 100, 68, 97, 116, 101]⟩, .string ⟨#[]⟩, .string ⟨#[112, 117, 98, 68, 97, 116, 101]⟩, .string spC, .string ⟨#[100, 97, 116, 101]⟩] [(⟨#[]⟩, ⟨#[108, 97, 115, 116, 66, 117, 105, 108, 100, 68, 97, 116, 101]⟩), (⟨#[]⟩, ⟨#[112, 117, 98, 68, 97, 116, 101]⟩), (spC, ⟨#[100, 97, 116, 101]⟩)] 3 rfl rfl
  go_wp2_with fail
  generalize u16.alloc (.cells #[.string ⟨#[]⟩, .string ⟨#[108, 97, 115, 116, 66, 117, 105, 108, 100, 68, 97, 116, 101]⟩, .string ⟨#[]⟩, .string ⟨#[112, 117, 98, 68, 97, 116, 101]⟩, .string spC, .string ⟨#[100, 97, 116, 101]⟩] 24) = u17 at S1 ⊢
  generalize u16.heap.size = q17 at S1 ⊢
  replace S := S1
  clear S1
  refine (ref23_plain ⟨#[97, 117, 116, 104, 111, 114]⟩ _).mono ?_
  rintro r u18 ⟨rfl, hb⟩
  replace S := S.up hb
  clear hb
  go_wp2_with fail
  refine (ref23_of ⟨#[99, 114, 101, 97, 116, 111, 114]⟩ _).mono ?_
  rintro r u19 ⟨rfl, hb⟩
  replace S := S.up hb
  clear hb
  have S1 := S.row #[.string ⟨#[]⟩, .string ⟨#[97, 117, 116, 104, 111, 114]⟩, .string spC, .string ⟨#[99, 114, 101, 97, 116, 111, 114]⟩] [(⟨#[]⟩, ⟨#[97, 117, 116, 104, 111, 114]⟩), (spC, ⟨#[99, 114, 101, 97, 116, 111, 114]⟩)] 2 rfl rfl
  go_wp2_with fail
  generalize u19.alloc (.cells #[.string ⟨#[]⟩, .string ⟨#[97, 117, 116, 104, 111, 114]⟩, .string spC, .string ⟨#[99, 114, 101, 97, 116, 111, 114]⟩] 24) = u20 at S1 ⊢
  generalize u19.heap.size = q20 at S1 ⊢
  replace S := S1
  clear S1
  refine (ref23_plain ⟨#[100, 101, 115, 99, 114, 105, 112, 116, 105, 111, 110]⟩ _).mono ?_
  rintro r u21 ⟨rfl, hb⟩
  replace S := S.up hb
  clear hb
  go_wp2_with fail
  refine (ref23_of ⟨#[100, 101, 115, 99, 114, 105, 112, 116, 105, 111, 110]⟩ _).mono ?_
  rintro r u22 ⟨rfl, hb⟩
  replace S := S.up hb
  clear hb
  go_wp2_with fail
  refine (ref23_plain ⟨#[115, 117, 109, 109, 97, 114, 121]⟩ _).mono ?_
  rintro r u23 ⟨rfl, hb⟩
  replace S := S.up hb
  clear hb
  have S1 := S.row #[.string ⟨#[104, 116, 116, 112, 58, 47, 47, 112, 117, 114, 108, 46, 111, 114, 103, 47, 114, 115, 115, 47, 49, 46, 48, 47, 109, 111, 100, 117, 108, 101, 115, 47, 99, 111, 110, 116, 101, 110, 116, 47]⟩, .string ⟨#[101, 110, 99, 111, 100, 101, 100]⟩, .string ⟨#[]⟩, .string ⟨#[100, 101, 115, 99, 114, 105, 112, 116, 105, 111, 110]⟩, .string spC, .string ⟨#[100, 101, 115, 99, 114, 105, 112, 116, 105, 111, 110]⟩, .string ⟨#[]⟩, .string ⟨#[115, 117, 109, 109, 97, 114, 121]⟩] [(spCon, ⟨#[101, 110, 99, 111, 100, 101, 100]⟩), (⟨#[]⟩, ⟨#[100, 101, 115, 99, 114, 105, 112, 116, 105, 111, 110]⟩), (spC, ⟨#[100, 101, 115, 99, 114, 105, 112, 116, 105, 111, 110]⟩), (⟨#[]⟩, ⟨#[115, 117, 109, 109, 97, 114, 121]⟩)] 4 rfl rfl
  go_wp2_with fail
  generalize u23.alloc (.cells #[.string ⟨#[104, 116, 116, 112, 58, 47, 47, 112, 117, 114, 108, 46, 111, 114, 103, 47, 114, 115, 115, 47, 49, 46, 48, 47, 109, 111, 100, 117, 108, 101, 115, 47, 99, 111, 110, 116, 101, 110, 116, 47]⟩, .string ⟨#[101, 110, 99, 111, 100, 101, 100]⟩, .string ⟨#[]⟩, .string ⟨#[100, 101, 115, 99, 114, 105, 112, 116, 105, 111, 110]⟩, .string spC, .string ⟨#[100, 101, 115, 99, 114, 105, 112, 116, 105, 111, 110]⟩, .string ⟨#[]⟩, .string ⟨#[115, 117, 109, 109, 97, 114, 121]⟩] 24) = u24 at S1 ⊢
  generalize u23.heap.size = q24 at S1 ⊢
  replace S := S1
  clear S1
  refine (ref23_plain ⟨#[112, 117, 98, 68, 97, 116, 101]⟩ _).mono ?_
  rintro r u25 ⟨rfl, hb⟩
  replace S := S.up hb
  clear hb
  go_wp2_with fail
  refine (ref23_of ⟨#[100, 97, 116, 101]⟩ _).mono ?_
  rintro r u26 ⟨rfl, hb⟩
  replace S := S.up hb
  clear hb
  have S1 := S.row #[.string ⟨#[]⟩, .string ⟨#[112, 117, 98, 68, 97, 116, 101]⟩, .string spC, .string ⟨#[100, 97, 116, 101]⟩] [(⟨#[]⟩, ⟨#[112, 117, 98, 68, 97, 116, 101]⟩), (spC, ⟨#[100, 97, 116, 101]⟩)] 2 rfl rfl
  go_wp2_with fail
  generalize u26.alloc (.cells #[.string ⟨#[]⟩, .string ⟨#[112, 117, 98, 68, 97, 116, 101]⟩, .string spC, .string ⟨#[100, 97, 116, 101]⟩] 24) = u27 at S1 ⊢
  generalize u26.heap.size = q27 at S1 ⊢
  replace S := S1
  clear S1
  have hF := ref23_Field B es _ [(spC, ⟨#[105, 100, 101, 110, 116, 105, 102, 105, 101, 114]⟩)] _ _ (FE.out _ S.b) (S.ns (List.mem_cons_of_mem _ (List.mem_cons_of_mem _ (List.mem_cons_of_mem _ (List.mem_cons_of_mem _ (List.mem_cons_of_mem _ (List.mem_cons_of_mem _ (List.mem_cons_self ..)))))))) (by decide)
  rw [HsI.out] at hF
  have HF := Lib.hid hF
  clear hF
  refine HF.out.mono ?_
  rintro r u28 ⟨rfl, hb⟩
  replace S := S.up hb
  clear hb HF
  have c0 : u28.cell? ⟨w.heap.size + 1, 0, none⟩ = some (.string ⟨#[]⟩) := S.ri.blk.cell 0 rfl
  have f0 := S.ri.blk.free 0
  have S1 := Lib.hid (S.set (Y := ⟨sI, sT, sL, ⟨#[]⟩, ⟨#[]⟩, ⟨#[]⟩, 0⟩) 0 (.string sI) rfl)
  clear S
  go_wp2_with fail
  have S := S1.out
  generalize u28.setCell ⟨w.heap.size + 1, 0, none⟩ (.string sI) = u29 at S ⊢
  clear S1 c0 f0
  have hAt := ref16_Attr B es _ 0 (⟨#[104, 116, 116, 112, 58, 47, 47, 119, 119, 119, 46, 119, 51, 46, 111, 114, 103, 47, 49, 57, 57, 57, 47, 48, 50, 47, 50, 50, 45, 114, 100, 102, 45, 115, 121, 110, 116, 97, 120, 45, 110, 115, 35]⟩, ⟨#[97, 98, 111, 117, 116]⟩) u29 (FE.out _ S.b).f.r (FE.out _ S.b).f.hB (by have := (FE.out _ S.b).f.n; omega) (FE.out _ S.b).f.z
  rw [HRR.out] at hAt
  have HAt := Lib.hid (hAt.mono fun _ _ h => h.eq)
  clear hAt
  refine HAt.out.mono ?_
  rintro r u30 ⟨rfl, hb⟩
  replace S := S.up hb
  clear hb HAt
  cases R with
  | none =>
    have q1 : (none : Option ByteArray).isSome = false := rfl
    have q2 : (none : Option ByteArray).getD ⟨#[]⟩ = ⟨#[]⟩ := rfl
    rw [q1, q2]
    have HV := Lib.hid (show iv = sI from HIV.out.symm)
    clear q1 q2
    go_wp2_with fail
    have hF := ref23_Field B es _ [(⟨#[]⟩, ⟨#[97, 117, 116, 104, 111, 114]⟩), (spC, ⟨#[99, 114, 101, 97, 116, 111, 114]⟩)] _ _ (FE.out _ S.b) (S.ns (List.mem_cons_of_mem _ (List.mem_cons_of_mem _ (List.mem_cons_self ..)))) (by decide)
    rw [HsA.out] at hF
    have HF := Lib.hid hF
    clear hF
    refine HF.out.mono ?_
    rintro r u31 ⟨rfl, hb⟩
    replace S := S.up hb
    clear hb HF
    have c0 : u31.cell? ⟨w.heap.size + 1, 3, none⟩ = some (.string ⟨#[]⟩) := S.ri.blk.cell 3 rfl
    have f0 := S.ri.blk.free 3
    have S1 := Lib.hid (S.set (Y := ⟨sI, sT, sL, sA, ⟨#[]⟩, ⟨#[]⟩, 0⟩) 3 (.string sA) rfl)
    clear S
    go_wp2_with fail
    have S := S1.out
    generalize u31.setCell ⟨w.heap.size + 1, 3, none⟩ (.string sA) = u32 at S ⊢
    clear S1 c0 f0
    have hF := ref23_Field B es _ [(spCon, ⟨#[101, 110, 99, 111, 100, 101, 100]⟩), (⟨#[]⟩, ⟨#[100, 101, 115, 99, 114, 105, 112, 116, 105, 111, 110]⟩), (spC, ⟨#[100, 101, 115, 99, 114, 105, 112, 116, 105, 111, 110]⟩), (⟨#[]⟩, ⟨#[115, 117, 109, 109, 97, 114, 121]⟩)] _ _ (FE.out _ S.b) (S.ns (List.mem_cons_of_mem _ (List.mem_cons_self ..))) (by decide)
    rw [HsC.out] at hF
    have HF := Lib.hid hF
    clear hF
    refine HF.out.mono ?_
    rintro r u33 ⟨rfl, hb⟩
    replace S := S.up hb
    clear hb HF
    have c0 : u33.cell? ⟨w.heap.size + 1, 4, none⟩ = some (.string ⟨#[]⟩) := S.ri.blk.cell 4 rfl
    have f0 := S.ri.blk.free 4
    have S1 := Lib.hid (S.set (Y := ⟨sI, sT, sL, sA, sC, ⟨#[]⟩, 0⟩) 4 (.string sC) rfl)
    clear S
    go_wp2_with fail
    have S := S1.out
    generalize u33.setCell ⟨w.heap.size + 1, 4, none⟩ (.string sC) = u34 at S ⊢
    clear S1 c0 f0
    have hF := ref23_Field B es _ [(⟨#[]⟩, ⟨#[112, 117, 98, 68, 97, 116, 101]⟩), (spC, ⟨#[100, 97, 116, 101]⟩)] _ _ (FE.out _ S.b) (S.ns (List.mem_cons_self ..)) (by decide)
    rw [HsD.out] at hF
    have HF := Lib.hid hF
    clear hF
    refine HF.out.mono ?_
    rintro r u35 ⟨rfl, hb⟩
    replace S := S.up hb
    clear hb HF
    have c0 : u35.cell? ⟨w.heap.size + 1, 5, none⟩ = some (.string ⟨#[]⟩) := S.ri.blk.cell 5 rfl
    have f0 := S.ri.blk.free 5
    have c6 : u35.cell? ⟨w.heap.size + 1, 6, none⟩ = some (.int .i8 0) := S.ri.blk.cell 6 rfl
    have f6 := S.ri.blk.free 6
    have c0x : u35.cell? ⟨w.heap.size + 1, 0, none⟩ = some (.string sI) := S.ri.blk.cell 0 rfl
    have c1x : u35.cell? ⟨w.heap.size + 1, 1, none⟩ = some (.string sT) := S.ri.blk.cell 1 rfl
    have c2x : u35.cell? ⟨w.heap.size + 1, 2, none⟩ = some (.string sL) := S.ri.blk.cell 2 rfl
    have c3x : u35.cell? ⟨w.heap.size + 1, 3, none⟩ = some (.string sA) := S.ri.blk.cell 3 rfl
    have c4x : u35.cell? ⟨w.heap.size + 1, 4, none⟩ = some (.string sC) := S.ri.blk.cell 4 rfl
    have r0 : u35.cell? ⟨w.heap.size, 0, none⟩ = some (.string ⟨#[]⟩) := S.r6.blk.cell 0 rfl
    have q0 := S.r6.blk.free 0
    have r1 : u35.cell? ⟨w.heap.size, 1, none⟩ = some (.string ⟨#[]⟩) := S.r6.blk.cell 1 rfl
    have q1 := S.r6.blk.free 1
    have r2 : u35.cell? ⟨w.heap.size, 2, none⟩ = some (.string ⟨#[]⟩) := S.r6.blk.cell 2 rfl
    have q2 := S.r6.blk.free 2
    have r3 : u35.cell? ⟨w.heap.size, 3, none⟩ = some (.string ⟨#[]⟩) := S.r6.blk.cell 3 rfl
    have q3 := S.r6.blk.free 3
    have r4 : u35.cell? ⟨w.heap.size, 4, none⟩ = some (.string ⟨#[]⟩) := S.r6.blk.cell 4 rfl
    have q4 := S.r6.blk.free 4
    have r5 : u35.cell? ⟨w.heap.size, 5, none⟩ = some (.string ⟨#[]⟩) := S.r6.blk.cell 5 rfl
    have q5 := S.r6.blk.free 5
    have r6 : u35.cell? ⟨w.heap.size, 6, none⟩ = some (.int .i8 0) := S.r6.blk.cell 6 rfl
    have q6 := S.r6.blk.free 6
    rcases HOR.out with h1 | ⟨j, s, h1, hj, -⟩
    · injection h1 with h1 h2
      subst h1
      subst h2
      have S2 := Lib.hid (S.set (Y := ⟨sI, sT, sL, sA, sC, ⟨#[]⟩, 0⟩) 5 (.string ⟨#[]⟩) rfl)
      clear S
      go_wp2_with fail
      refine bodyPost_ret (results_cell1 rfl _ _ _ _ _ rfl (((((((S2.out.r6.set 0 _).set 1 _).set 2 _).set 3 _).set 4 _).set 5 _).set 6 _).blk Try.underlying47 rfl (by kernel_rfl)) rfl ⟨?_, ?_⟩
      · rw [HV.out]; rfl
      · exact ((((((S2.out.b.setCell (Nat.le_refl _) _).setCell (Nat.le_refl _) _).setCell (Nat.le_refl _) _).setCell (Nat.le_refl _) _).setCell (Nat.le_refl _) _).setCell (Nat.le_refl _) _).setCell (Nat.le_refl _) _
    · injection h1 with h1 h2
      subst h1
      subst h2
      by_cases hje : j = 1
      · subst hje
        have S2 := Lib.hid ((S.set (Y := ⟨sI, sT, sL, sA, sC, sD, 0⟩) 5 (.string sD) rfl).set (Y := ⟨sI, sT, sL, sA, sC, sD, 3⟩) 6 (.int .i8 3) rfl)
        clear S
        go_wp2_with fail
        refine bodyPost_ret (results_cell1 rfl _ _ _ _ _ rfl (((((((S2.out.r6.set 0 _).set 1 _).set 2 _).set 3 _).set 4 _).set 5 _).set 6 _).blk Try.underlying47 rfl (by kernel_rfl)) rfl ⟨?_, ?_⟩
        · rw [HV.out]; rfl
        · exact ((((((S2.out.b.setCell (Nat.le_refl _) _).setCell (Nat.le_refl _) _).setCell (Nat.le_refl _) _).setCell (Nat.le_refl _) _).setCell (Nat.le_refl _) _).setCell (Nat.le_refl _) _).setCell (Nat.le_refl _) _
      · have d1 : ((j : Int) == 1) = false := beq_eq_false_iff_ne.2 (by omega)
        have HK := Lib.hid (show kindD (j : Int) 2 = 1 by unfold kindD; rw [if_neg (by omega), if_neg (by omega)])
        have d2 := decide_eq_true (show (0 : Int) ≤ (j : Int) by omega)
        clear hje
        have S2 := Lib.hid ((S.set (Y := ⟨sI, sT, sL, sA, sC, sD, 0⟩) 5 (.string sD) rfl).set (Y := ⟨sI, sT, sL, sA, sC, sD, 1⟩) 6 (.int .i8 1) rfl)
        clear S
        go_wp2_with fail
        refine bodyPost_ret (results_cell1 rfl _ _ _ _ _ rfl (((((((S2.out.r6.set 0 _).set 1 _).set 2 _).set 3 _).set 4 _).set 5 _).set 6 _).blk Try.underlying47 rfl (by kernel_rfl)) rfl ⟨?_, ?_⟩
        · rw [HV.out]; rw [HK.out]; rfl
        · exact ((((((S2.out.b.setCell (Nat.le_refl _) _).setCell (Nat.le_refl _) _).setCell (Nat.le_refl _) _).setCell (Nat.le_refl _) _).setCell (Nat.le_refl _) _).setCell (Nat.le_refl _) _).setCell (Nat.le_refl _) _
  | some ab =>
    have q1 : (some ab).isSome = true := rfl
    have q2 : (some ab).getD ⟨#[]⟩ = ab := rfl
    rw [q1, q2]
    clear q1 q2
    go_wp2_with fail
    refine (ref09_Blank ab u30 (hRs ab rfl)).mono ?_
    rintro r u31 ⟨rfl, rfl⟩
    cases hbl : blankN (nums ab) with
    | true =>
      have HV := Lib.hid (show iv = sI by rw [← HIV.out]; unfold idF; rw [if_pos rfl]; simp only; rw [if_pos hbl])
      clear hbl
      go_wp2_with fail
      have hF := ref23_Field B es _ [(⟨#[]⟩, ⟨#[97, 117, 116, 104, 111, 114]⟩), (spC, ⟨#[99, 114, 101, 97, 116, 111, 114]⟩)] _ _ (FE.out _ S.b) (S.ns (List.mem_cons_of_mem _ (List.mem_cons_of_mem _ (List.mem_cons_self ..)))) (by decide)
      rw [HsA.out] at hF
      have HF := Lib.hid hF
      clear hF
      refine HF.out.mono ?_
      rintro r u32 ⟨rfl, hb⟩
      replace S := S.up hb
      clear hb HF
      have c0 : u32.cell? ⟨w.heap.size + 1, 3, none⟩ = some (.string ⟨#[]⟩) := S.ri.blk.cell 3 rfl
      have f0 := S.ri.blk.free 3
      have S1 := Lib.hid (S.set (Y := ⟨sI, sT, sL, sA, ⟨#[]⟩, ⟨#[]⟩, 0⟩) 3 (.string sA) rfl)
      clear S
      go_wp2_with fail
      have S := S1.out
      generalize u32.setCell ⟨w.heap.size + 1, 3, none⟩ (.string sA) = u33 at S ⊢
      clear S1 c0 f0
      have hF := ref23_Field B es _ [(spCon, ⟨#[101, 110, 99, 111, 100, 101, 100]⟩), (⟨#[]⟩, ⟨#[100, 101, 115, 99, 114, 105, 112, 116, 105, 111, 110]⟩), (spC, ⟨#[100, 101, 115, 99, 114, 105, 112, 116, 105, 111, 110]⟩), (⟨#[]⟩, ⟨#[115, 117, 109, 109, 97, 114, 121]⟩)] _ _ (FE.out _ S.b) (S.ns (List.mem_cons_of_mem _ (List.mem_cons_self ..))) (by decide)
      rw [HsC.out] at hF
      have HF := Lib.hid hF
      clear hF
      refine HF.out.mono ?_
      rintro r u34 ⟨rfl, hb⟩
      replace S := S.up hb
      clear hb HF
      have c0 : u34.cell? ⟨w.heap.size + 1, 4, none⟩ = some (.string ⟨#[]⟩) := S.ri.blk.cell 4 rfl
      have f0 := S.ri.blk.free 4
      have S1 := Lib.hid (S.set (Y := ⟨sI, sT, sL, sA, sC, ⟨#[]⟩, 0⟩) 4 (.string sC) rfl)
      clear S
      go_wp2_with fail
      have S := S1.out
      generalize u34.setCell ⟨w.heap.size + 1, 4, none⟩ (.string sC) = u35 at S ⊢
      clear S1 c0 f0
      have hF := ref23_Field B es _ [(⟨#[]⟩, ⟨#[112, 117, 98, 68, 97, 116, 101]⟩), (spC, ⟨#[100, 97, 116, 101]⟩)] _ _ (FE.out _ S.b) (S.ns (List.mem_cons_self ..)) (by decide)
      rw [HsD.out] at hF
      have HF := Lib.hid hF
      clear hF
      refine HF.out.mono ?_
      rintro r u36 ⟨rfl, hb⟩
      replace S := S.up hb
      clear hb HF
      have c0 : u36.cell? ⟨w.heap.size + 1, 5, none⟩ = some (.string ⟨#[]⟩) := S.ri.blk.cell 5 rfl
      have f0 := S.ri.blk.free 5
      have c6 : u36.cell? ⟨w.heap.size + 1, 6, none⟩ = some (.int .i8 0) := S.ri.blk.cell 6 rfl
      have f6 := S.ri.blk.free 6
      have c0x : u36.cell? ⟨w.heap.size + 1, 0, none⟩ = some (.string sI) := S.ri.blk.cell 0 rfl
      have c1x : u36.cell? ⟨w.heap.size + 1, 1, none⟩ = some (.string sT) := S.ri.blk.cell 1 rfl
      have c2x : u36.cell? ⟨w.heap.size + 1, 2, none⟩ = some (.string sL) := S.ri.blk.cell 2 rfl
      have c3x : u36.cell? ⟨w.heap.size + 1, 3, none⟩ = some (.string sA) := S.ri.blk.cell 3 rfl
      have c4x : u36.cell? ⟨w.heap.size + 1, 4, none⟩ = some (.string sC) := S.ri.blk.cell 4 rfl
      have r0 : u36.cell? ⟨w.heap.size, 0, none⟩ = some (.string ⟨#[]⟩) := S.r6.blk.cell 0 rfl
      have q0 := S.r6.blk.free 0
      have r1 : u36.cell? ⟨w.heap.size, 1, none⟩ = some (.string ⟨#[]⟩) := S.r6.blk.cell 1 rfl
      have q1 := S.r6.blk.free 1
      have r2 : u36.cell? ⟨w.heap.size, 2, none⟩ = some (.string ⟨#[]⟩) := S.r6.blk.cell 2 rfl
      have q2 := S.r6.blk.free 2
      have r3 : u36.cell? ⟨w.heap.size, 3, none⟩ = some (.string ⟨#[]⟩) := S.r6.blk.cell 3 rfl
      have q3 := S.r6.blk.free 3
      have r4 : u36.cell? ⟨w.heap.size, 4, none⟩ = some (.string ⟨#[]⟩) := S.r6.blk.cell 4 rfl
      have q4 := S.r6.blk.free 4
      have r5 : u36.cell? ⟨w.heap.size, 5, none⟩ = some (.string ⟨#[]⟩) := S.r6.blk.cell 5 rfl
      have q5 := S.r6.blk.free 5
      have r6 : u36.cell? ⟨w.heap.size, 6, none⟩ = some (.int .i8 0) := S.r6.blk.cell 6 rfl
      have q6 := S.r6.blk.free 6
      rcases HOR.out with h1 | ⟨j, s, h1, hj, -⟩
      · injection h1 with h1 h2
        subst h1
        subst h2
        have S2 := Lib.hid (S.set (Y := ⟨sI, sT, sL, sA, sC, ⟨#[]⟩, 0⟩) 5 (.string ⟨#[]⟩) rfl)
        clear S
        go_wp2_with fail
        refine bodyPost_ret (results_cell1 rfl _ _ _ _ _ rfl (((((((S2.out.r6.set 0 _).set 1 _).set 2 _).set 3 _).set 4 _).set 5 _).set 6 _).blk Try.underlying47 rfl (by kernel_rfl)) rfl ⟨?_, ?_⟩
        · rw [HV.out]; rfl
        · exact ((((((S2.out.b.setCell (Nat.le_refl _) _).setCell (Nat.le_refl _) _).setCell (Nat.le_refl _) _).setCell (Nat.le_refl _) _).setCell (Nat.le_refl _) _).setCell (Nat.le_refl _) _).setCell (Nat.le_refl _) _
      · injection h1 with h1 h2
        subst h1
        subst h2
        by_cases hje : j = 1
        · subst hje
          have S2 := Lib.hid ((S.set (Y := ⟨sI, sT, sL, sA, sC, sD, 0⟩) 5 (.string sD) rfl).set (Y := ⟨sI, sT, sL, sA, sC, sD, 3⟩) 6 (.int .i8 3) rfl)
          clear S
          go_wp2_with fail
          refine bodyPost_ret (results_cell1 rfl _ _ _ _ _ rfl (((((((S2.out.r6.set 0 _).set 1 _).set 2 _).set 3 _).set 4 _).set 5 _).set 6 _).blk Try.underlying47 rfl (by kernel_rfl)) rfl ⟨?_, ?_⟩
          · rw [HV.out]; rfl
          · exact ((((((S2.out.b.setCell (Nat.le_refl _) _).setCell (Nat.le_refl _) _).setCell (Nat.le_refl _) _).setCell (Nat.le_refl _) _).setCell (Nat.le_refl _) _).setCell (Nat.le_refl _) _).setCell (Nat.le_refl _) _
        · have d1 : ((j : Int) == 1) = false := beq_eq_false_iff_ne.2 (by omega)
          have HK := Lib.hid (show kindD (j : Int) 2 = 1 by unfold kindD; rw [if_neg (by omega), if_neg (by omega)])
          have d2 := decide_eq_true (show (0 : Int) ≤ (j : Int) by omega)
          clear hje
          have S2 := Lib.hid ((S.set (Y := ⟨sI, sT, sL, sA, sC, sD, 0⟩) 5 (.string sD) rfl).set (Y := ⟨sI, sT, sL, sA, sC, sD, 1⟩) 6 (.int .i8 1) rfl)
          clear S
          go_wp2_with fail
          refine bodyPost_ret (results_cell1 rfl _ _ _ _ _ rfl (((((((S2.out.r6.set 0 _).set 1 _).set 2 _).set 3 _).set 4 _).set 5 _).set 6 _).blk Try.underlying47 rfl (by kernel_rfl)) rfl ⟨?_, ?_⟩
          · rw [HV.out]; rw [HK.out]; rfl
          · exact ((((((S2.out.b.setCell (Nat.le_refl _) _).setCell (Nat.le_refl _) _).setCell (Nat.le_refl _) _).setCell (Nat.le_refl _) _).setCell (Nat.le_refl _) _).setCell (Nat.le_refl _) _).setCell (Nat.le_refl _) _
    | false =>
      have HV := Lib.hid (show iv = ab by rw [← HIV.out]; unfold idF; rw [if_pos rfl]; simp only; rw [hbl, if_neg Bool.false_ne_true])
      clear hbl
      have c0 : u30.cell? ⟨w.heap.size + 1, 0, none⟩ = some (.string sI) := S.ri.blk.cell 0 rfl
      have f0 := S.ri.blk.free 0
      have S1 := Lib.hid (S.set (Y := ⟨ab, sT, sL, ⟨#[]⟩, ⟨#[]⟩, ⟨#[]⟩, 0⟩) 0 (.string ab) rfl)
      clear S
      go_wp2_with fail
      have S := S1.out
      generalize u30.setCell ⟨w.heap.size + 1, 0, none⟩ (.string ab) = u32 at S ⊢
      clear S1 c0 f0
      have hF := ref23_Field B es _ [(⟨#[]⟩, ⟨#[97, 117, 116, 104, 111, 114]⟩), (spC, ⟨#[99, 114, 101, 97, 116, 111, 114]⟩)] _ _ (FE.out _ S.b) (S.ns (List.mem_cons_of_mem _ (List.mem_cons_of_mem _ (List.mem_cons_self ..)))) (by decide)
      rw [HsA.out] at hF
      have HF := Lib.hid hF
      clear hF
      refine HF.out.mono ?_
      rintro r u33 ⟨rfl, hb⟩
      replace S := S.up hb
      clear hb HF
      have c0 : u33.cell? ⟨w.heap.size + 1, 3, none⟩ = some (.string ⟨#[]⟩) := S.ri.blk.cell 3 rfl
      have f0 := S.ri.blk.free 3
      have S1 := Lib.hid (S.set (Y := ⟨ab, sT, sL, sA, ⟨#[]⟩, ⟨#[]⟩, 0⟩) 3 (.string sA) rfl)
      clear S
      go_wp2_with fail
      have S := S1.out
      generalize u33.setCell ⟨w.heap.size + 1, 3, none⟩ (.string sA) = u34 at S ⊢
      clear S1 c0 f0
      have hF := ref23_Field B es _ [(spCon, ⟨#[101, 110, 99, 111, 100, 101, 100]⟩), (⟨#[]⟩, ⟨#[100, 101, 115, 99, 114, 105, 112, 116, 105, 111, 110]⟩), (spC, ⟨#[100, 101, 115, 99, 114, 105, 112, 116, 105, 111, 110]⟩), (⟨#[]⟩, ⟨#[115, 117, 109, 109, 97, 114, 121]⟩)] _ _ (FE.out _ S.b) (S.ns (List.mem_cons_of_mem _ (List.mem_cons_self ..))) (by decide)
      rw [HsC.out] at hF
      have HF := Lib.hid hF
      clear hF
      refine HF.out.mono ?_
      rintro r u35 ⟨rfl, hb⟩
      replace S := S.up hb
      clear hb HF
      have c0 : u35.cell? ⟨w.heap.size + 1, 4, none⟩ = some (.string ⟨#[]⟩) := S.ri.blk.cell 4 rfl
      have f0 := S.ri.blk.free 4
      have S1 := Lib.hid (S.set (Y := ⟨ab, sT, sL, sA, sC, ⟨#[]⟩, 0⟩) 4 (.string sC) rfl)
      clear S
      go_wp2_with fail
      have S := S1.out
      generalize u35.setCell ⟨w.heap.size + 1, 4, none⟩ (.string sC) = u36 at S ⊢
      clear S1 c0 f0
      have hF := ref23_Field B es _ [(⟨#[]⟩, ⟨#[112, 117, 98, 68, 97, 116, 101]⟩), (spC, ⟨#[100, 97, 116, 101]⟩)] _ _ (FE.out _ S.b) (S.ns (List.mem_cons_self ..)) (by decide)
      rw [HsD.out] at hF
      have HF := Lib.hid hF
      clear hF
      refine HF.out.mono ?_
      rintro r u37 ⟨rfl, hb⟩
      replace S := S.up hb
      clear hb HF
      have c0 : u37.cell? ⟨w.heap.size + 1, 5, none⟩ = some (.string ⟨#[]⟩) := S.ri.blk.cell 5 rfl
      have f0 := S.ri.blk.free 5
      have c6 : u37.cell? ⟨w.heap.size + 1, 6, none⟩ = some (.int .i8 0) := S.ri.blk.cell 6 rfl
      have f6 := S.ri.blk.free 6
      have c0x : u37.cell? ⟨w.heap.size + 1, 0, none⟩ = some (.string ab) := S.ri.blk.cell 0 rfl
      have c1x : u37.cell? ⟨w.heap.size + 1, 1, none⟩ = some (.string sT) := S.ri.blk.cell 1 rfl
      have c2x : u37.cell? ⟨w.heap.size + 1, 2, none⟩ = some (.string sL) := S.ri.blk.cell 2 rfl
      have c3x : u37.cell? ⟨w.heap.size + 1, 3, none⟩ = some (.string sA) := S.ri.blk.cell 3 rfl
      have c4x : u37.cell? ⟨w.heap.size + 1, 4, none⟩ = some (.string sC) := S.ri.blk.cell 4 rfl
      have r0 : u37.cell? ⟨w.heap.size, 0, none⟩ = some (.string ⟨#[]⟩) := S.r6.blk.cell 0 rfl
      have q0 := S.r6.blk.free 0
      have r1 : u37.cell? ⟨w.heap.size, 1, none⟩ = some (.string ⟨#[]⟩) := S.r6.blk.cell 1 rfl
      have q1 := S.r6.blk.free 1
      have r2 : u37.cell? ⟨w.heap.size, 2, none⟩ = some (.string ⟨#[]⟩) := S.r6.blk.cell 2 rfl
      have q2 := S.r6.blk.free 2
      have r3 : u37.cell? ⟨w.heap.size, 3, none⟩ = some (.string ⟨#[]⟩) := S.r6.blk.cell 3 rfl
      have q3 := S.r6.blk.free 3
      have r4 : u37.cell? ⟨w.heap.size, 4, none⟩ = some (.string ⟨#[]⟩) := S.r6.blk.cell 4 rfl
      have q4 := S.r6.blk.free 4
      have r5 : u37.cell? ⟨w.heap.size, 5, none⟩ = some (.string ⟨#[]⟩) := S.r6.blk.cell 5 rfl
      have q5 := S.r6.blk.free 5
      have r6 : u37.cell? ⟨w.heap.size, 6, none⟩ = some (.int .i8 0) := S.r6.blk.cell 6 rfl
      have q6 := S.r6.blk.free 6
      rcases HOR.out with h1 | ⟨j, s, h1, hj, -⟩
      · injection h1 with h1 h2
        subst h1
        subst h2
        have S2 := Lib.hid (S.set (Y := ⟨ab, sT, sL, sA, sC, ⟨#[]⟩, 0⟩) 5 (.string ⟨#[]⟩) rfl)
        clear S
        go_wp2_with fail
        refine bodyPost_ret (results_cell1 rfl _ _ _ _ _ rfl (((((((S2.out.r6.set 0 _).set 1 _).set 2 _).set 3 _).set 4 _).set 5 _).set 6 _).blk Try.underlying47 rfl (by kernel_rfl)) rfl ⟨?_, ?_⟩
        · rw [HV.out]; rfl
        · exact ((((((S2.out.b.setCell (Nat.le_refl _) _).setCell (Nat.le_refl _) _).setCell (Nat.le_refl _) _).setCell (Nat.le_refl _) _).setCell (Nat.le_refl _) _).setCell (Nat.le_refl _) _).setCell (Nat.le_refl _) _
      · injection h1 with h1 h2
        subst h1
        subst h2
        by_cases hje : j = 1
        · subst hje
          have S2 := Lib.hid ((S.set (Y := ⟨ab, sT, sL, sA, sC, sD, 0⟩) 5 (.string sD) rfl).set (Y := ⟨ab, sT, sL, sA, sC, sD, 3⟩) 6 (.int .i8 3) rfl)
          clear S
          go_wp2_with fail
          refine bodyPost_ret (results_cell1 rfl _ _ _ _ _ rfl (((((((S2.out.r6.set 0 _).set 1 _).set 2 _).set 3 _).set 4 _).set 5 _).set 6 _).blk Try.underlying47 rfl (by kernel_rfl)) rfl ⟨?_, ?_⟩
          · rw [HV.out]; rfl
          · exact ((((((S2.out.b.setCell (Nat.le_refl _) _).setCell (Nat.le_refl _) _).setCell (Nat.le_refl _) _).setCell (Nat.le_refl _) _).setCell (Nat.le_refl _) _).setCell (Nat.le_refl _) _).setCell (Nat.le_refl _) _
        · have d1 : ((j : Int) == 1) = false := beq_eq_false_iff_ne.2 (by omega)
          have HK := Lib.hid (show kindD (j : Int) 2 = 1 by unfold kindD; rw [if_neg (by omega), if_neg (by omega)])
          have d2 := decide_eq_true (show (0 : Int) ≤ (j : Int) by omega)
          clear hje
          have S2 := Lib.hid ((S.set (Y := ⟨ab, sT, sL, sA, sC, sD, 0⟩) 5 (.string sD) rfl).set (Y := ⟨ab, sT, sL, sA, sC, sD, 1⟩) 6 (.int .i8 1) rfl)
          clear S
          go_wp2_with fail
          refine bodyPost_ret (results_cell1 rfl _ _ _ _ _ rfl (((((((S2.out.r6.set 0 _).set 1 _).set 2 _).set 3 _).set 4 _).set 5 _).set 6 _).blk Try.underlying47 rfl (by kernel_rfl)) rfl ⟨?_, ?_⟩
          · rw [HV.out]; rw [HK.out]; rfl
          · exact ((((((S2.out.b.setCell (Nat.le_refl _) _).setCell (Nat.le_refl _) _).setCell (Nat.le_refl _) _).setCell (Nat.le_refl _) _).setCell (Nat.le_refl _) _).setCell (Nat.le_refl _) _).setCell (Nat.le_refl _) _
end Go.Proofs.Yteefopeclfojiaa
