/-
  Parts RtC RtD RtE of this seat's texts, in one file: contracts of functions that the law reaches, and the plain laws behind them. No condition.
-/
import Derived.Test.YteefopeclfojiaaG18
import Derived.Test.YteefopeclfojiaaG17
import Derived.Test.YteefopeclfojiaaG15
import Derived.Test.YteefopeclfojiaaG5
/- 
  Layer 23: the walk of the document's items.
 -/
namespace Go.Proofs.Yteefopeclfojiaa
open Go.RowKit Go.Sort
attribute [local go_sem] Oper.semAt_some
theorem OwnX.mono {base base' : Nat} {w : World} {v : Value} {l : List Itm} (h : OwnX base w v l) (hb : base' ≤ base) : OwnX base' w v l := ownsRow_base h hb
theorem filt_take {P : Nat → Bool} {K : List Nat} {j x : Nat} (hx : K[j]? = some x) : (K.take (j + 1)).filter P = (K.take j).filter P ++ (if P x then [x] else []) := by
  rw [List.take_add_one, hx, List.filter_append]
  congr 1
  by_cases h : P x = true
  · simp [h]
  · simp [h]
/-- an item of an element, by itself. -/
theorem ref23_item_k {B : Nat} {es : List Evt} {g : Gr} {x : Nat} {U : KidT} {b off n cap : Nat} {w : World} (hE : REv B es (.slice (some ⟨b, off, none⟩) n cap) w) (hG : growP es = some g) (hU : OnT es (endO g) x U) {f : Int} (hf : f = 1 ∨ f = 2) :
    Calls Try.prog 89 #[.slice (some ⟨b, off + x * 5, none⟩) (U.2.2.sz + 2) (cap - x), .int .i8 f, .bool false] w fun r w' => r = .returned (.agg (itV (itK es f x))) ∧ Below w.heap.size w w' := by
  unfold itK
  rw [hU.part hG]
  rcases hf with rfl | rfl
  · exact ref23_item_1 B _ _ w (hE.part hG hU)
  · exact ref23_item_2 B _ _ w (hE.part hG hU)
set_option maxRecDepth 100000 in
set_option maxHeartbeats 16000000 in
theorem ref23_items (B : Nat) (es : List Evt) (v : Value) (p : Nat) (f : Int) (w : World) (hE : REv B es v w) {g : Gr} {T : KidT} (hG : growP es = some g) (hT : OnT es (endO g) p T) (hf : f = 1 ∨ f = 2) :
    Calls Try.prog 91 #[v, .int .i64 p, .int .i8 f] w fun r w' => ∃ u, r = .returned u ∧ OwnX w.heap.size w' u (itemsP es p f) ∧ Below w.heap.size w w' := by
  obtain ⟨avs, ⟨a, cap, rfl, -⟩, -⟩ := id hE.f.r
  have HK := ref16_Kids B es _ p _ hE.f.r hE.f.hB (by have := hE.f.n; omega) hE.f.z2
  obtain ⟨nn, hnn⟩ : ∃ n, es.length = n := ⟨_, rfl⟩
  have HNN := Lib.hid hnn
  rw [hnn] at HK hE ⊢
  have HE := Lib.hid hE
  have hko : ∀ x ∈ kidsP es p, ∃ U, OnT es (endO g) x U := fun x hx => by
    obtain ⟨U, -, h⟩ := kid_on hG hT hx
    exact ⟨U, h⟩
  have hkm : ∀ x ∈ kidsP es p, x < nn := fun x hx => by rw [← hnn]; exact kidsP_mem hx
  have hkl := kidsP_len es p
  have hn9 := hE.f.n
  rw [hnn] at hkl hn9
  have hit : itemsP es p f = ((kidsP es p).filter (nmK es itN)).map (itK es f) := rfl
  rw [hit]
  obtain ⟨K, hK⟩ : ∃ K, kidsP es p = K := ⟨_, rfl⟩
  rw [hK] at HK hkm hkl hko ⊢
  have HK := Lib.hid HK
  have HKM := Lib.hid hkm
  have HKO := Lib.hid hko
  have HG := Lib.hid hG
  have HFF := Lib.hid hf
  clear hE hnn hK hkm hko hit hG hf hT
  go_enter Try.func91, Try.ntmps91
  go_wp2_with fail
  refine (HK.out).mono ?_
  rintro r w1 ⟨u, rfl, hrow, hb1⟩
  obtain ⟨ka, kc, rfl, -⟩ := kid_row hrow
  obtain ⟨m, hm⟩ : ∃ m, K.length = m := ⟨_, rfl⟩
  have HC := Lib.hid (kid_cells hrow)
  have HM := Lib.hid hm
  rw [hm] at hkl ⊢
  have hbw := hb1
  have HE1 := Lib.hid (HE.out.below hb1)
  clear hrow hm HK hb1
  go_wp2_with fail
  go_loopw [7, 9] (fun o i wr => ∃ (j qn : Nat) (qa : Option Addr) (qc : Nat), i = .int .i64 j ∧ o = .slice qa qn qc ∧ j ≤ m ∧ OwnX w1.heap.size wr (.slice qa qn qc) (((K.take j).filter (nmK es itN)).map (itK es f)) ∧ Below w1.heap.size w1 wr) (fun _ i _ => m - (intOf i).toNat)
  case atStart => exact ⟨0, 0, none, 0, rfl, rfl, by omega, OwnX.nil _ _, Below.refl _ _⟩
  case round =>
    obtain ⟨j, qn, qa, qc, rfl, rfl, hj, hown, hb⟩ := hrel
    by_cases hlt : j < m
    · have hd := decide_eq_true (show (j : Int) < (m : Int) by omega)
      obtain ⟨x, hx⟩ : ∃ x, K[j]? = some x := ⟨_, List.getElem?_eq_getElem (by rw [HM.out]; exact hlt)⟩
      obtain ⟨g1, hga, kcell⟩ := HC.out wr hb j x hx
      subst hga
      have hxn := HKM.out x (List.mem_of_getElem? hx)
      obtain ⟨U, hU⟩ := HKO.out x (List.mem_of_getElem? hx)
      obtain ⟨y, hy⟩ : ∃ y, es[x]? = some y := ⟨_, List.getElem?_eq_getElem (by rw [HNN.out]; exact hxn)⟩
      have hft := filt_take (P := nmK es itN) hx
      have hce : ∀ u, Below w1.heap.size w1 u → u.cell? ⟨g1, j, none⟩ = some (.int .i64 (x : Int)) ∧ (∃ b off, a = some ⟨b, off, none⟩ ∧ u.cell? ⟨b, off + x * 5 + 1, none⟩ = some (.string y.n.1) ∧ u.cell? ⟨b, off + x * 5 + 1 + 1, none⟩ = some (.string y.n.2)) := fun u hu => by
        obtain ⟨g', hg', h1⟩ := HC.out u hu j x hx
        cases hg'
        obtain ⟨b, off, cap', av, hv, hbB, c0, c1, c2, -⟩ := HE1.out.f.r.get hu HE1.out.f.hB x y hy
        injection hv with hv
        exact ⟨h1, ⟨b, off, hv, c1, by rw [show off + x * 5 + 1 + 1 = off + x * 5 + 2 by omega]; exact c2⟩⟩
      obtain ⟨-, b, off, rfl, -⟩ := hce wr hb
      have HCE := Lib.hid (show ∀ u, Below w1.heap.size w1 u → u.cell? ⟨g1, j, none⟩ = some (.int .i64 (x : Int)) ∧ u.cell? ⟨b, off + x * 5 + 1, none⟩ = some (.string y.n.1) ∧ u.cell? ⟨b, off + x * 5 + 1 + 1, none⟩ = some (.string y.n.2) from fun u hu => by
        obtain ⟨h1, b', off', h2, h3, h4⟩ := hce u hu
        cases h2
        exact ⟨h1, h3, h4⟩)
      have hnk : nmK es itN x = namedB y.n itN := nmK_of hy itN
      rw [hnk] at hft
      have HFT := Lib.hid hft
      have HU := Lib.hid hU
      clear hce hy hx hnk hft hU
      have r0 := cell_regrown (HCE.out wr hb).1
      have r1 := cell_regrown (HCE.out wr hb).2.1
      have r2 := cell_regrown (HCE.out wr hb).2.2
      have cP := fun (d : Nat) (os : Array Obj) => CallsIn.regrown_of (callsIn_wide (n := 5).2 (ref23_plain ⟨#[105, 116, 101, 109]⟩ (grow (redrawn wr d) os)))
      go_wp2_with fail
      refine (wpIn_wide (n := 6)).1 ?_
      refine wpIn_region_below_tail 9 (by kernel_rfl) (by kernel_rfl) (by kernel_rfl) ?_
      simp only [List.take_succ_cons, List.take_zero, List.drop_succ_cons, List.drop_zero]
      repeat (refine wpQuietIn_step (askedR (fun _ => trivial)) (fun K hK => ?_); go_simp; first | (refine hK _ ?_; clear hK K) | (apply Exists.intro; refine ⟨fun _ => ?_, hK _ ?_⟩; (first | exact cP _ _ | exact ⟨by decide, cP _ _⟩); clear hK K))
      clear r0 r1 r2 cP kcell
      refine wpQuietIn_nil ?_
      rintro w6 ⟨⟨dq, osq⟩, hw6⟩
      have hb6 : Below wr.heap.size wr w6 := by rw [hw6]; exact below_regrown wr dq osq
      clear hw6
      have hc6 := hb.trans (hb6.mono hb.size)
      have hown6 := hown.below hb6 (Nat.le_refl _)
      have HN := Lib.hid (ref23_named y.n itN w6)
      clear hown hb6
      gi_wp2_with fail
      refine ⟨trivial, ?_⟩
      refine (callsIn_wide.2 HN.out).mono ?_
      rintro r w7 ⟨rfl, hb7⟩
      have hc7 := hc6.trans (hb7.mono hc6.size)
      have hown7 := hown6.below hb7 (Nat.le_refl _)
      clear hown6 hb7 HN
      cases hnb : namedB y.n itN with
      | false =>
        have HST := Lib.hid (show (K.take (j + 1)).filter (nmK es itN) = (K.take j).filter (nmK es itN) by rw [HFT.out, hnb, if_neg Bool.false_ne_true, List.append_nil])
        clear hnb
        gi_wp2_with fail
        go_wp2_with fail
        exact ⟨⟨j + 1, qn, qa, qc, by go_num, rfl, by omega, by rw [HST.out]; exact hown7, hc7⟩, by simp [intOf]; omega⟩
      | true =>
        have HST := Lib.hid (show (K.take (j + 1)).filter (nmK es itN) = (K.take j).filter (nmK es itN) ++ [x] by rw [HFT.out, hnb, if_pos rfl])
        have k7 := (HCE.out w7 hc7).1
        have HPT := Lib.hid (fun (u : World) (hu : Below w1.heap.size w1 u) => ref23_partT (HE1.out.below hu) HG.out HU.out)
        obtain ⟨X, hX⟩ : ∃ X, itK es f x = X := ⟨_, rfl⟩
        have HXX := Lib.hid hX
        have HIT := Lib.hid (fun (u : World) (hu : Below w1.heap.size w1 u) => (show Calls Try.prog 89 #[.slice (some ⟨b, off + x * 5, none⟩) (U.2.2.sz + 2) (cap - x), .int .i8 f, .bool false] u fun r w' => r = .returned (.agg #[.string X.id, .string X.title, .string X.link, .string X.author, .string X.content, .string X.date, .int .i8 X.kind]) ∧ Below u.heap.size u w' from by
          have h := ref23_item_k (HE1.out.below hu) HG.out HU.out HFF.out
          rw [hX] at h
          exact h))
        have hll : (((K.take j).filter (nmK es itN)).map (itK es f)).length + 1 ≤ 1000000 := by
          rw [List.length_map]
          have h1 := List.length_filter_le (nmK es itN) (K.take j)
          rw [List.length_take] at h1
          omega
        have HLL := Lib.hid hll
        have HO7 := Lib.hid hown7
        clear hnb hX hll hown7
        gi_wp2_with fail
        go_wp2_with fail
        refine (HPT.out w7 hc7).mono ?_
        rintro r w8 ⟨rfl, hb8⟩
        have hc8 := hc7.trans (hb8.mono hc7.size)
        go_wp2_with fail
        refine (HIT.out w8 hc8).mono ?_
        rintro r w9 ⟨rfl, hb9⟩
        have hc9 := hc8.trans (hb9.mono hc8.size)
        have h10 : Below w9.heap.size w9 (w9.alloc (.cells #[.string X.id, .string X.title, .string X.link, .string X.author, .string X.content, .string X.date, .int .i8 X.kind] 47)) := (Below.refl _ w9).alloc (Nat.le_refl _) _
        have hown9 := ((HO7.out.below hb8 (Nat.le_refl _)).below hb9 (Nat.le_refl _)).below h10 (Nat.le_refl _)
        have hlit := OwnX.lit (w := w9) (l := [X]) #[.string X.id, .string X.title, .string X.link, .string X.author, .string X.content, .string X.date, .int .i8 X.kind] rfl 1 rfl (by decide)
        obtain ⟨a5, c5, w11, hr11, O11, hb11⟩ := hown9.apps (CReads.of_own hlit) (Nat.le_trans hc9.size h10.size) (by have := HLL.out; simpa using this)
        have hc11 : Below w1.heap.size w1 w11 := (hc9.trans (h10.mono hc9.size)).trans hb11
        obtain ⟨N, hN⟩ : ∃ N, (((K.take j).filter (nmK es itN)).map (itK es f) ++ [X]).length = N := ⟨_, rfl⟩
        rw [hN] at hr11 O11
        have HR := Lib.hid hr11
        clear hN
        clear hr11 hown9 hlit h10 hb11 hb8 hb9 k7 HPT HIT HO7
        go_wp2_with (at_builtin; refine wpList_append_run rfl _ _ _ _ rfl _ _ rfl rfl _ _ HR.out ?_)
        refine ⟨⟨j + 1, _, a5, c5, by go_num, rfl, by omega, ?_, hc11⟩, by simp [intOf]; omega⟩
        rw [HST.out, List.map_append, List.map_cons, List.map_nil, HXX.out]
        exact O11
    · have hd := decide_eq_false (show ¬ (j : Int) < (m : Int) by omega)
      rw [List.take_of_length_le (by rw [HM.out]; omega)] at hown
      have hfin := hown.mono hbw.size
      have hbf := hbw.trans (hb.mono hbw.size)
      clear hown hb
      go_wp2_with fail
      go_ret
      exact ⟨_, rfl, hfin, hbf⟩
end Go.Proofs.Yteefopeclfojiaa
/- 
  Layer 23: the walk of the document's Parse.
 -/
namespace Go.Proofs.Yteefopeclfojiaa
open Go.RowKit Go.Sort
attribute [local go_sem] Oper.semAt_some
attribute [local go_sem ↓] app_veil
/-- what lasts within the document's Parse: the result's block, the raw feed's. -/
structure PdS (w : World) (xb : Nat) (R : RawT) (W : World) : Prop where
  be : Below w.heap.size w W
  r0 : RowAt W w.heap.size 50 (rawC 0 Itm.none (.slice none 0 0))
  x : ∃ v, RowAt W xb 50 (rawC R.fmt R.head v) ∧ OwnX (xb + 1) W v R.items
  hx : w.heap.size < xb
  sz : xb + 1 ≤ W.heap.size
theorem PdS.up {w : World} {xb : Nat} {R : RawT} {W W' : World} (h : PdS w xb R W) (hb : Below W.heap.size W W') : PdS w xb R W' := by
  obtain ⟨v, h1, h2⟩ := h.x
  exact ⟨bt h.be hb, h.r0.below hb h.r0.lt, ⟨v, h1.below hb h1.lt, h2.below hb (Nat.le_refl _)⟩, h.hx, Nat.le_trans h.sz hb.size⟩
theorem PdS.hd {w : World} {xb : Nat} {R : RawT} {W : World} (h : PdS w xb R W) (H : Itm) : PdS w xb ⟨R.fmt, H, R.items⟩ (World.setHd W xb H) := by
  obtain ⟨v, h1, h2⟩ := h.x
  have h3 := hd_below h.be (Nat.le_of_lt h.hx) H
  exact ⟨h3, hd_other h.r0 (Nat.ne_of_lt h.hx) H, ⟨v, hd_row h1 H, hd_own h2 (Nat.lt_succ_self _) H⟩, h.hx, Nat.le_trans h.sz (hd_below (Below.refl 0 W) (Nat.zero_le _) H).size⟩
/-- the items, stored. -/
theorem PdS.its {w : World} {xb : Nat} {R : RawT} {W W' : World} (h : PdS w xb R W) (hb : Below (xb + 1) W W') {u : Value} {L : List Itm} (hu : OwnX (xb + 1) W' u L) : PdS w xb ⟨R.fmt, R.head, L⟩ (W'.setCell ⟨xb, 8, none⟩ u) := by
  obtain ⟨v, h1, h2⟩ := h.x
  have h3 := h1.below hb (Nat.lt_succ_self _)
  have h4 := h3.set 8 u
  have hx := h.hx
  exact ⟨(h.be.trans (hb.mono (by omega))).setCell (p := ⟨xb, 8, none⟩) (Nat.le_of_lt hx) u, (h.r0.below hb (by omega)).far (Nat.ne_of_lt hx) 8 u, ⟨u, by simpa [rawC] using h4, hu.setFar (Nat.lt_succ_self _) 8 u⟩, hx, by simp; exact Nat.le_trans h.sz hb.size⟩
def PdC (w' : World) (w : World) (es : List Evt) (r : Ending) : Prop := ∃ u, r = .returned (.tuple #[u, .int .i64 (if kindP es = 0 then 43 else 0)]) ∧ RawS w.heap.size w' (feedR es) u ∧ Below w.heap.size w w'
theorem itemsP_flat (es : List Evt) (f : Int) : itemsP es 0 f = [0].flatMap fun i => itemsP es i f := by simp
set_option maxRecDepth 100000 in
set_option maxHeartbeats 16000000 in
theorem ref23_Parse (B : Nat) (es : List Evt) (v : Value) (w : World) (hE : REv B es v w) :
    Calls Try.prog 49 #[v] w fun r w' => PdC w' w es r := by
  obtain ⟨avs, ⟨a, cap, rfl, -⟩, -⟩ := id hE.f.r
  obtain ⟨nn, hnn⟩ : ∃ n, es.length = n := ⟨_, rfl⟩
  rw [hnn] at hE ⊢
  have HNN := Lib.hid hnn
  clear hnn
  have hR := RowAt.new w #[.int .i8 0, .string ⟨#[]⟩, .string ⟨#[]⟩, .string ⟨#[]⟩, .string ⟨#[]⟩, .string ⟨#[]⟩, .string ⟨#[]⟩, .int .i8 0, .slice none 0 0] 50
  have hB := (Below.refl w.heap.size w).alloc (Nat.le_refl _) (.cells #[.int .i8 0, .string ⟨#[]⟩, .string ⟨#[]⟩, .string ⟨#[]⟩, .string ⟨#[]⟩, .string ⟨#[]⟩, .string ⟨#[]⟩, .int .i8 0, .slice none 0 0] 50)
  have FE := Lib.hid (fun (u : World) (hu : Below w.heap.size w u) => hE.below hu)
  have hWh := ref16_Whole B es _ _ (FE.out _ hB).f.r (FE.out _ hB).f.hB (by have := (FE.out _ hB).f.n; omega) (FE.out _ hB).f.z2
  clear hE
  cases hG : growP es with
  | none =>
    rw [hG] at hWh
    have HWH := Lib.hid hWh
    have HKZ := Lib.hid (kindP_none hG)
    clear hWh hG
    go_enter Try.func49, Try.ntmps49
    go_wp2_with fail
    refine HWH.out.mono ?_
    rintro r w2 ⟨rfl, hb2⟩
    rw [show (none : Option Gr).isSome = false from rfl]
    replace hR := hR.below hb2 hR.lt
    replace hB := hB.trans (hb2.mono hB.size)
    have r0 : w2.cell? ⟨w.heap.size, 0, none⟩ = some (.int .i8 0) := hR.blk.cell 0 rfl
    have q0 := hR.blk.free 0
    have r1 : w2.cell? ⟨w.heap.size, 1, none⟩ = some (.string ⟨#[]⟩) := hR.blk.cell 1 rfl
    have q1 := hR.blk.free 1
    have r2 : w2.cell? ⟨w.heap.size, 2, none⟩ = some (.string ⟨#[]⟩) := hR.blk.cell 2 rfl
    have q2 := hR.blk.free 2
    have r3 : w2.cell? ⟨w.heap.size, 3, none⟩ = some (.string ⟨#[]⟩) := hR.blk.cell 3 rfl
    have q3 := hR.blk.free 3
    have r4 : w2.cell? ⟨w.heap.size, 4, none⟩ = some (.string ⟨#[]⟩) := hR.blk.cell 4 rfl
    have q4 := hR.blk.free 4
    have r5 : w2.cell? ⟨w.heap.size, 5, none⟩ = some (.string ⟨#[]⟩) := hR.blk.cell 5 rfl
    have q5 := hR.blk.free 5
    have r6 : w2.cell? ⟨w.heap.size, 6, none⟩ = some (.string ⟨#[]⟩) := hR.blk.cell 6 rfl
    have q6 := hR.blk.free 6
    have r7 : w2.cell? ⟨w.heap.size, 7, none⟩ = some (.int .i8 0) := hR.blk.cell 7 rfl
    have q7 := hR.blk.free 7
    have r8 : w2.cell? ⟨w.heap.size, 8, none⟩ = some (.slice none 0 0) := hR.blk.cell 8 rfl
    have q8 := hR.blk.free 8
    have HR := Lib.hid hR
    have HB := Lib.hid hB
    clear hR hB hb2 HWH
    go_wp2_with fail
    refine bodyPost_ret (results_cell2 rfl _ _ _ _ _ rfl (raw_set HR.out _ _ _ _ _ _ _ _ _).blk Try.underlying50 rfl (by kernel_rfl)) rfl ?_
    unfold PdC
    rw [if_pos HKZ.out, feedR_none HKZ.out]
    exact ⟨_, rfl, ⟨.slice none 0 0, rfl, OwnX.nil _ _⟩, raw_below HB.out (Nat.le_refl _) _ _ _ _ _ _ _ _ _⟩
  | some g =>
    rw [hG] at hWh
    obtain ⟨T, hes, hwf, hT⟩ := whole_tree hG
    have hy := hT.get
    have hkT := kindP_some hG hy
    have HWH := Lib.hid hWh
    have EC := Lib.hid (fun (u : World) (hu : Below w.heap.size w u) => (show ∃ b off, a = some ⟨b, off, none⟩ ∧ u.cell? ⟨b, off + 1, none⟩ = some (.string T.1.1) ∧ u.cell? ⟨b, off + 1 + 1, none⟩ = some (.string T.1.2) from by
      obtain ⟨b', off', cap', av, hv, hbB, e0, e1, e2, -⟩ := (FE.out u hu).f.r.get (Below.refl _ u) (FE.out u hu).f.hB 0 _ hy
      injection hv with hv
      exact ⟨b', off', hv, by rw [show off' + 1 = off' + 0 * 5 + 1 by omega]; exact e1, by rw [show off' + 1 + 1 = off' + 0 * 5 + 2 by omega]; exact e2⟩))
    obtain ⟨b, off, rfl, -⟩ := EC.out _ hB
    have EN := Lib.hid (fun (u : World) (hu : Below w.heap.size w u) => (show u.cell? ⟨b, off + 1, none⟩ = some (.string T.1.1) ∧ u.cell? ⟨b, off + 1 + 1, none⟩ = some (.string T.1.2) from by
      obtain ⟨b', off', h1, h2⟩ := EC.out u hu
      cases h1
      exact h2))
    have hn0 : 0 < nn := by rw [← HNN.out]; exact (List.getElem?_eq_some_iff.1 hy).1
    have HKT := Lib.hid (show kindP es = kindR T.1 from hkT)
    have HG := Lib.hid hG
    have HT := Lib.hid hT
    clear hWh hes hwf hy hkT EC hG hT
    go_enter Try.func49, Try.ntmps49
    go_wp2_with fail
    refine HWH.out.mono ?_
    rintro r w2 ⟨rfl, hb2⟩
    rw [show (some g).isSome = true from rfl]
    replace hR := hR.below hb2 hR.lt
    replace hB := hB.trans (hb2.mono hB.size)
    have c1 := (EN.out w2 hB).1
    have c2 := (EN.out w2 hB).2
    have hK1 := ref23_Kind T.1 w2
    obtain ⟨f, hf⟩ : ∃ f, kindR T.1 = f := ⟨_, rfl⟩
    rw [hf] at hK1 HKT
    have HK1 := Lib.hid hK1
    have HF := Lib.hid hf
    clear hK1 hb2 HWH hf
    go_wp2_with fail
    refine HK1.out.mono ?_
    rintro r w3 ⟨rfl, hb3⟩
    replace hR := hR.below hb3 hR.lt
    replace hB := hB.trans (hb3.mono hB.size)
    clear c1 c2 HK1 hb3
    by_cases hf0 : f = 0
    · subst hf0
      have HKZ := HKT
      have r0 : w3.cell? ⟨w.heap.size, 0, none⟩ = some (.int .i8 0) := hR.blk.cell 0 rfl
      have q0 := hR.blk.free 0
      have r1 : w3.cell? ⟨w.heap.size, 1, none⟩ = some (.string ⟨#[]⟩) := hR.blk.cell 1 rfl
      have q1 := hR.blk.free 1
      have r2 : w3.cell? ⟨w.heap.size, 2, none⟩ = some (.string ⟨#[]⟩) := hR.blk.cell 2 rfl
      have q2 := hR.blk.free 2
      have r3 : w3.cell? ⟨w.heap.size, 3, none⟩ = some (.string ⟨#[]⟩) := hR.blk.cell 3 rfl
      have q3 := hR.blk.free 3
      have r4 : w3.cell? ⟨w.heap.size, 4, none⟩ = some (.string ⟨#[]⟩) := hR.blk.cell 4 rfl
      have q4 := hR.blk.free 4
      have r5 : w3.cell? ⟨w.heap.size, 5, none⟩ = some (.string ⟨#[]⟩) := hR.blk.cell 5 rfl
      have q5 := hR.blk.free 5
      have r6 : w3.cell? ⟨w.heap.size, 6, none⟩ = some (.string ⟨#[]⟩) := hR.blk.cell 6 rfl
      have q6 := hR.blk.free 6
      have r7 : w3.cell? ⟨w.heap.size, 7, none⟩ = some (.int .i8 0) := hR.blk.cell 7 rfl
      have q7 := hR.blk.free 7
      have r8 : w3.cell? ⟨w.heap.size, 8, none⟩ = some (.slice none 0 0) := hR.blk.cell 8 rfl
      have q8 := hR.blk.free 8
      have HR := Lib.hid hR
      have HB := Lib.hid hB
      clear hR hB
      go_wp2_with fail
      refine bodyPost_ret (results_cell2 rfl _ _ _ _ _ rfl (raw_set HR.out _ _ _ _ _ _ _ _ _).blk Try.underlying50 rfl (by kernel_rfl)) rfl ?_
      unfold PdC
      rw [if_pos HKZ.out, feedR_none HKZ.out]
      exact ⟨_, rfl, ⟨.slice none 0 0, rfl, OwnX.nil _ _⟩, raw_below HB.out (Nat.le_refl _) _ _ _ _ _ _ _ _ _⟩
    · have hf0b : (f == 0) = false := by simpa using hf0
      have hfo : f = 1 ∨ f = 2 := by
        have h1 := kindR_or T.1
        rw [HF.out] at h1
        rcases h1 with h1 | h1
        · exact absurd h1 hf0
        · exact h1
      have HFO := Lib.hid hfo
      have HFN := Lib.hid hf0
      clear hfo hf0
      have c1 := (EN.out w3 hB).1
      have c2 := (EN.out w3 hB).2
      go_wp2_with fail
      have hK2 := ref23_Kind T.1 w3
      rw [HF.out] at hK2
      refine hK2.mono ?_
      rintro r w4 ⟨rfl, hb4⟩
      replace hR := hR.below hb4 hR.lt
      replace hB := hB.trans (hb4.mono hB.size)
      clear c1 c2 hK2 hb4 hf0b
      have hX := RowAt.new w4 #[.int .i8 f, .string ⟨#[]⟩, .string ⟨#[]⟩, .string ⟨#[]⟩, .string ⟨#[]⟩, .string ⟨#[]⟩, .string ⟨#[]⟩, .int .i8 0, .slice none 0 0] 50
      have J : PdS w w4.heap.size ⟨f, Itm.none, []⟩ (w4.alloc (.cells #[.int .i8 f, .string ⟨#[]⟩, .string ⟨#[]⟩, .string ⟨#[]⟩, .string ⟨#[]⟩, .string ⟨#[]⟩, .string ⟨#[]⟩, .int .i8 0, .slice none 0 0] 50)) :=
        ⟨hB.alloc hB.size _, hR.alloc _, ⟨.slice none 0 0, hX, OwnX.nil _ _⟩, hR.lt, by simp⟩
      clear hR hB hX
      go_wp2_with fail
      generalize w4.alloc (.cells #[.int .i8 f, .string ⟨#[]⟩, .string ⟨#[]⟩, .string ⟨#[]⟩, .string ⟨#[]⟩, .string ⟨#[]⟩, .string ⟨#[]⟩, .int .i8 0, .slice none 0 0] 50) = w5 at J ⊢
      generalize w4.heap.size = xb at J ⊢
      have hHK := ref16_Kids B es _ 0 w5 (FE.out _ J.be).f.r (FE.out _ J.be).f.hB (by have := (FE.out _ J.be).f.n; omega) (FE.out _ J.be).f.z2
      have hko : ∀ x ∈ kidsP es 0, ∃ U, OnT es (endO g) x U := fun x hx => by
        obtain ⟨U, -, h⟩ := kid_on HG.out HT.out hx
        exact ⟨U, h⟩
      have hkm : ∀ x ∈ kidsP es 0, x < nn := fun x hx => by rw [← HNN.out]; exact kidsP_mem hx
      have hkl := kidsP_len es 0
      have hn9 := (FE.out _ J.be).f.n
      rw [HNN.out] at hkl hn9
      have hna : namedR es 0 chanN = (kidsP es 0).filter (nmK es chanN) := rfl
      have HCH := Lib.hid (fun x => feedR_ch (x := x) HKT.out HFN.out)
      have HNO := Lib.hid (feedR_no HKT.out HFN.out)
      rw [hna] at HCH HNO
      obtain ⟨K, hK⟩ : ∃ K, kidsP es 0 = K := ⟨_, rfl⟩
      rw [hK] at hHK hkm hkl hko HCH HNO
      have HKM := Lib.hid hkm
      have HKO := Lib.hid hko
      have HHK := Lib.hid hHK
      clear hK hkm hna hko hHK
      refine HHK.out.mono ?_
      rintro r w6 ⟨u, rfl, hrow, hb6⟩
      obtain ⟨ka, kc, rfl, -⟩ := kid_row hrow
      obtain ⟨m, hm⟩ : ∃ m, K.length = m := ⟨_, rfl⟩
      have HC := Lib.hid (kid_cells hrow)
      have HM := Lib.hid hm
      have J6 := J.up hb6
      rw [hm] at hkl ⊢
      clear hrow hm HHK hb6 J
      go_wp2_with fail
      go_loopw [6, 7] (fun av i wr => ∃ (j : Nat) (aI : Int), i = .int .i64 j ∧ av = .int .i64 aI ∧ j ≤ m ∧ Below w6.heap.size w6 wr ∧ ((aI = -1 ∧ (K.take j).filter (nmK es chanN) = []) ∨ (∃ x : Nat, aI = (x : Int) ∧ x ∈ K ∧ (K.filter (nmK es chanN)).head? = some x))) (fun _ i _ => m - (intOf i).toNat)
      case atStart => exact ⟨0, -1, rfl, rfl, by omega, Below.refl _ _, .inl ⟨rfl, rfl⟩⟩
      case round =>
        obtain ⟨j, aI, rfl, rfl, hj, hb, hst⟩ := hrel
        rcases hst with ⟨rfl, hno⟩ | ⟨x, rfl, hxK, hhd⟩
        · by_cases hlt : j < m
          · have hd := decide_eq_true (show (j : Int) < (m : Int) by omega)
            obtain ⟨x, hx⟩ : ∃ x, K[j]? = some x := ⟨_, List.getElem?_eq_getElem (by rw [HM.out]; exact hlt)⟩
            obtain ⟨g1, hga, kcell⟩ := HC.out wr hb j x hx
            subst hga
            have hxn := HKM.out x (List.mem_of_getElem? hx)
            obtain ⟨y, hy⟩ : ∃ y, es[x]? = some y := ⟨_, List.getElem?_eq_getElem (by rw [HNN.out]; exact hxn)⟩
            have hft := filt_take (P := nmK es chanN) hx
            rw [hno, List.nil_append] at hft
            have hce : ∀ u, Below w6.heap.size w6 u → u.cell? ⟨g1, j, none⟩ = some (.int .i64 (x : Int)) ∧ u.cell? ⟨b, off + x * 5 + 1, none⟩ = some (.string y.n.1) ∧ u.cell? ⟨b, off + x * 5 + 1 + 1, none⟩ = some (.string y.n.2) := fun u hu => by
              obtain ⟨g', hg', h1⟩ := HC.out u hu j x hx
              cases hg'
              have hu2 := bt J6.be hu
              obtain ⟨b', off', cap', av, hv, hbB, c0, c1, c2, -⟩ := (FE.out u hu2).f.r.get (Below.refl _ u) (FE.out u hu2).f.hB x y hy
              cases hv
              exact ⟨h1, c1, by rw [show off + x * 5 + 1 + 1 = off + x * 5 + 2 by omega]; exact c2⟩
            have HCE := Lib.hid hce
            have hnk : nmK es chanN x = namedB y.n chanN := nmK_of hy chanN
            rw [hnk] at hft
            have HXM := Lib.hid (List.mem_of_getElem? hx)
            have hpre : (K.filter (nmK es chanN)) = (K.take (j + 1)).filter (nmK es chanN) ++ (K.drop (j + 1)).filter (nmK es chanN) := by rw [← List.filter_append, List.take_append_drop]
            have HFT := Lib.hid hft
            have HPRE := Lib.hid hpre
            clear hce hy hx hnk hft hno hpre
            have r0 := cell_regrown (HCE.out wr hb).1
            have r1 := cell_regrown (HCE.out wr hb).2.1
            have r2 := cell_regrown (HCE.out wr hb).2.2
            have cP := fun (d : Nat) (os : Array Obj) => CallsIn.regrown_of (callsIn_wide (n := 5).2 (ref23_plain ⟨#[99, 104, 97, 110, 110, 101, 108]⟩ (grow (redrawn wr d) os)))
            go_wp2_with fail
            refine (wpIn_wide (n := 6)).1 ?_
            refine wpIn_region_below_tail 9 (by kernel_rfl) (by kernel_rfl) (by kernel_rfl) ?_
            simp only [List.take_succ_cons, List.take_zero, List.drop_succ_cons, List.drop_zero]
            repeat (refine wpQuietIn_step (askedR (fun _ => trivial)) (fun K hK => ?_); go_simp; first | (refine hK _ ?_; clear hK K) | (apply Exists.intro; refine ⟨fun _ => ?_, hK _ ?_⟩; (first | exact cP _ _ | exact ⟨by decide, cP _ _⟩); clear hK K))
            clear r0 r1 r2 cP kcell
            refine wpQuietIn_nil ?_
            rintro w7 ⟨⟨dq, osq⟩, hw7⟩
            have hb7 : Below wr.heap.size wr w7 := by rw [hw7]; exact below_regrown wr dq osq
            clear hw7
            have hc7 := hb.trans (hb7.mono hb.size)
            have HN := Lib.hid (ref23_named y.n chanN w7)
            clear hb7
            gi_wp2_with fail
            refine ⟨trivial, ?_⟩
            refine (callsIn_wide.2 HN.out).mono ?_
            rintro r w8 ⟨rfl, hb8⟩
            have hc8 := hc7.trans (hb8.mono hc7.size)
            clear hb8 HN
            cases hnb : namedB y.n chanN with
            | false =>
              have HST := Lib.hid (show (K.take (j + 1)).filter (nmK es chanN) = [] by rw [HFT.out, hnb, if_neg Bool.false_ne_true])
              clear hnb
              gi_wp2_with fail
              go_wp2_with fail
              exact ⟨⟨j + 1, -1, by go_num, rfl, by omega, hc8, .inl ⟨rfl, HST.out⟩⟩, by simp [intOf]; omega⟩
            | true =>
              have HST := Lib.hid (show (K.filter (nmK es chanN)).head? = some x by rw [HPRE.out, HFT.out, hnb, if_pos rfl]; rfl)
              have k8 := (HCE.out w8 hc8).1
              clear hnb
              gi_wp2_with fail
              go_wp2_with fail
              exact ⟨⟨j + 1, x, by go_num, rfl, by omega, hc8, .inr ⟨x, rfl, HXM.out, HST.out⟩⟩, by simp [intOf]; omega⟩
          · have hd := decide_eq_false (show ¬ (j : Int) < (m : Int) by omega)
            have HFD := Lib.hid (show feedR es = ⟨f, Itm.none, [] ++ itemsP es 0 f⟩ by
              rw [List.take_of_length_le (by rw [HM.out]; omega)] at hno
              have h := HNO.out (by rw [hno]; rfl)
              rw [h, ← itemsP_flat, List.nil_append])
            have HLN := Lib.hid (show ([] : List Itm).length + (itemsP es 0 f).length ≤ 1000000 by
              have h1 := itemsP_len es 0 f
              rw [HNN.out] at h1
              simp
              omega)
            have J := J6.up hb
            clear hno hb J6 HC
            go_wp2_with fail
            have JD := PdS.up J (Below.refl _ wr).drew
            obtain ⟨v0, hrow, hown⟩ := JD.x
            obtain ⟨y1, y2, y3, rfl⟩ := hown.form
            try simp only at hrow hown
            have RC8 := Lib.hid (fun (u : World) (hu : Below wr.drew.heap.size wr.drew u) => (show u.cell? ⟨xb, 8, none⟩ = some (.slice y1 y2 y3) ∧ u.cell? ⟨xb, 0, none⟩ = some (.int .i8 f) from ⟨(hrow.below hu hrow.lt).blk.cell 8 rfl, (hrow.below hu hrow.lt).blk.cell 0 rfl⟩))
            have HIC := Lib.hid (fun (u : World) (hu : Below wr.drew.heap.size wr.drew u) => ref23_items B es _ 0 f u (FE.out u (bt JD.be hu)) HG.out HT.out HFO.out)
            have HJD := Lib.hid JD
            have HROW := Lib.hid hrow
            have HOWN := Lib.hid hown
            clear J JD hrow hown
            refine (wpIn_wide (n := 6)).1 ?_
            refine wpIn_region_T 6 (fun w' => Below wr.drew.heap.size wr.drew w') (by kernel_rfl) (by decide) ?_
            refine walkT_take (i := 0) (v := ?_) rfl (by kernel_rfl) (fun _ _ _ h => h) ⟨Or.inl ⟨by rfl, ?_⟩, fun _ => rfl⟩ (Below.refl _ _) ?_
            rotate_left
            · intro u hu
              go_simp
              try rfl
            simp only [Act.put]
            refine walkT_take (i := 1) (v := ?_) rfl (by kernel_rfl) (fun _ _ _ h => h) ⟨Or.inl ⟨by rfl, ?_⟩, fun _ => rfl⟩ (Below.refl _ _) ?_
            rotate_left
            · intro u hu
              have h8 := (RC8.out u hu).1
              go_simp
              try rfl
            simp only [Act.put]
            refine walkT_take (i := 2) (v := ?_) rfl (by kernel_rfl) (fun _ _ _ h => h) ⟨Or.inl ⟨by rfl, ?_⟩, fun _ => rfl⟩ (Below.refl _ _) ?_
            rotate_left
            · intro u hu
              go_simp
              try rfl
            simp only [Act.put]
            refine walkT_take (i := 3) (v := ?_) rfl (by kernel_rfl) (fun _ _ _ h => h) ⟨Or.inl ⟨by rfl, ?_⟩, fun _ => rfl⟩ (Below.refl _ _) ?_
            rotate_left
            · intro u hu
              go_simp
              try rfl
            simp only [Act.put]
            refine walkT_take (i := 4) (v := ?_) rfl (by kernel_rfl) (fun _ _ _ h => h) ⟨Or.inl ⟨by rfl, ?_⟩, fun _ => rfl⟩ (Below.refl _ _) ?_
            rotate_left
            · intro u hu
              have h8 := (RC8.out u hu).2
              go_simp
              try rfl
            simp only [Act.put]
            refine walkT_step (i := 5) rfl (by kernel_rfl) (fun K hK => ?_)
            rw [if_pos (by rfl)]
            go_simp
            refine ⟨trivial, ?_⟩
            refine (callsIn_wide.2 (HIC.out _ (Below.refl _ _))).mono ?_
            rintro r w19 ⟨u19, rfl, hu19, hb19⟩
            refine hK _ _ hb19 ?_
            clear hK K
            obtain ⟨y4, y5, y6, rfl⟩ := hu19.form
            have hl := HLN.out
            have J19 := HJD.out.up hb19
            have O19 := HOWN.out.below hb19 (Nat.le_refl _)
            obtain ⟨a5, c5, w20, hr20, O20, hb20⟩ := O19.apps (CReads.of_own hu19) J19.sz hl
            obtain ⟨N, hN⟩ : ∃ N, ([] ++ itemsP es 0 f).length = N := ⟨_, rfl⟩
            rw [hN] at hr20 O20
            have J21 := PdS.its J19 hb20 O20
            have hr20' : Sem.run Try.prog (AppV #[48, 48] 48 #[.slice y1 y2 y3, .slice y4 y5 y6]) w19 = .ok (.slice a5 N c5) w20 := hr20
            have row20 := (HROW.out.below hb19 HROW.out.lt).below hb20 (Nat.lt_succ_self _)
            have e2 : w20.cell? ⟨xb, 8, none⟩ = some (.slice y1 y2 y3) := row20.blk.cell 8 rfl
            have e3 := row20.blk.free 8
            have HJ21 := Lib.hid J21
            clear hr20 O20 O19 J19 J21 row20 hb20 hu19 hN RC8 HIC HJD HROW HOWN hl
            refine walkT_tail (by kernel_rfl) ?_
            simp only [List.drop_succ_cons, List.drop_zero]
            gi_wp2_with fail
            have J := HJ21.out
            generalize w20.setCell ⟨xb, 8, none⟩ (.slice a5 N c5) = w21 at J ⊢
            clear e2 e3 hr20' HJ21
            have HBE := Lib.hid J.be
            obtain ⟨v1, hrow, hown⟩ := J.x
            obtain ⟨z1, z2, z3, rfl⟩ := hown.form
            try simp only at hrow hown
            have HOW := Lib.hid hown
            have HR0 := Lib.hid J.r0
            have HX := Lib.hid J.hx
            have k0 : w21.cell? ⟨xb, 0, none⟩ = some (.int .i8 f) := hrow.blk.cell 0 rfl
            have k1 : w21.cell? ⟨xb, 1, none⟩ = some (.string (Itm.none).id) := hrow.blk.cell 1 rfl
            have k2 : w21.cell? ⟨xb, 2, none⟩ = some (.string (Itm.none).title) := hrow.blk.cell 2 rfl
            have k3 : w21.cell? ⟨xb, 3, none⟩ = some (.string (Itm.none).link) := hrow.blk.cell 3 rfl
            have k4 : w21.cell? ⟨xb, 4, none⟩ = some (.string (Itm.none).author) := hrow.blk.cell 4 rfl
            have k5 : w21.cell? ⟨xb, 5, none⟩ = some (.string (Itm.none).content) := hrow.blk.cell 5 rfl
            have k6 : w21.cell? ⟨xb, 6, none⟩ = some (.string (Itm.none).date) := hrow.blk.cell 6 rfl
            have k7 : w21.cell? ⟨xb, 7, none⟩ = some (.int .i8 (Itm.none).kind) := hrow.blk.cell 7 rfl
            have k8 : w21.cell? ⟨xb, 8, none⟩ = some (.slice z1 z2 z3) := hrow.blk.cell 8 rfl
            have r0 : w21.cell? ⟨w.heap.size, 0, none⟩ = some (.int .i8 0) := J.r0.blk.cell 0 rfl
            have q0 := J.r0.blk.free 0
            have r1 : w21.cell? ⟨w.heap.size, 1, none⟩ = some (.string ⟨#[]⟩) := J.r0.blk.cell 1 rfl
            have q1 := J.r0.blk.free 1
            have r2 : w21.cell? ⟨w.heap.size, 2, none⟩ = some (.string ⟨#[]⟩) := J.r0.blk.cell 2 rfl
            have q2 := J.r0.blk.free 2
            have r3 : w21.cell? ⟨w.heap.size, 3, none⟩ = some (.string ⟨#[]⟩) := J.r0.blk.cell 3 rfl
            have q3 := J.r0.blk.free 3
            have r4 : w21.cell? ⟨w.heap.size, 4, none⟩ = some (.string ⟨#[]⟩) := J.r0.blk.cell 4 rfl
            have q4 := J.r0.blk.free 4
            have r5 : w21.cell? ⟨w.heap.size, 5, none⟩ = some (.string ⟨#[]⟩) := J.r0.blk.cell 5 rfl
            have q5 := J.r0.blk.free 5
            have r6 : w21.cell? ⟨w.heap.size, 6, none⟩ = some (.string ⟨#[]⟩) := J.r0.blk.cell 6 rfl
            have q6 := J.r0.blk.free 6
            have r7 : w21.cell? ⟨w.heap.size, 7, none⟩ = some (.int .i8 0) := J.r0.blk.cell 7 rfl
            have q7 := J.r0.blk.free 7
            have r8 : w21.cell? ⟨w.heap.size, 8, none⟩ = some (.slice none 0 0) := J.r0.blk.cell 8 rfl
            have q8 := J.r0.blk.free 8
            clear hrow hown J
            go_wp2_with fail
            refine bodyPost_ret (results_cell2 rfl _ _ _ _ _ rfl (raw_set HR0.out _ _ _ _ _ _ _ _ _).blk Try.underlying50 rfl (by kernel_rfl)) rfl ?_
            unfold PdC
            rw [HFD.out, if_neg (by rw [HKT.out]; exact HFN.out)]
            exact ⟨_, rfl, ⟨.slice z1 z2 z3, rfl, OwnX.mono (raw_own (OwnX.mono HOW.out (Nat.succ_le_succ (Nat.le_of_lt HX.out))) (Nat.lt_succ_self _) _ _ _ _ _ _ _ _ _) (Nat.le_succ _)⟩, raw_below HBE.out (Nat.le_refl _) _ _ _ _ _ _ _ _ _⟩
        ·
          obtain ⟨U, hU⟩ := HKO.out x hxK
          have HU := Lib.hid hU
          obtain ⟨H, hH⟩ : ∃ H, foundP (partP es x) headF = H := ⟨_, rfl⟩
          have hfd := HCH.out x hhd
          rw [hH] at hfd
          have HFE := Lib.hid hfd
          have hpt := hU.part HG.out
          have hH2 : foundP (flT U) headF = H := by rw [← hpt]; exact hH
          have HPT := Lib.hid (fun (u : World) (hu : Below w.heap.size w u) => ref23_partT (FE.out u hu) HG.out HU.out)
          have HIT := Lib.hid (fun (u : World) (hu : Below w.heap.size w u) => (show Calls Try.prog 89 #[.slice (some ⟨b, off + x * 5, none⟩) (U.2.2.sz + 2) (cap - x), .int .i8 f, .bool true] u fun r w' => r = .returned (.agg #[.string H.id, .string H.title, .string H.link, .string H.author, .string H.content, .string H.date, .int .i8 H.kind]) ∧ Below u.heap.size u w' from by
            have h := ref23_item_h B (flT U) _ f u ((FE.out u hu).part HG.out HU.out)
            rw [hH2] at h
            exact h))
          have J := J6.up hb
          have hnx := decide_eq_false (show ¬ (x : Int) < 0 by omega)
          have hpx := decide_eq_true (show (0 : Int) ≤ (x : Int) by omega)
          have HXK := Lib.hid hxK
          clear hhd hH hfd hpt hH2 hb J6 HC hU hxK
          go_wp2_with fail
          all_goals
            have JD := PdS.up J (Below.refl _ wr).drew
            obtain ⟨v0, hrow, hown⟩ := JD.x
            try simp only at hrow
            have RC0 := Lib.hid (fun (u : World) (hu : Below wr.drew.heap.size wr.drew u) => (show u.cell? ⟨xb, 0, none⟩ = some (.int .i8 f) from (hrow.below hu hrow.lt).blk.cell 0 rfl))
            have HJD := Lib.hid JD
            clear J JD hrow hown v0
            refine (wpIn_wide (n := 6)).1 ?_
            refine wpIn_region_T 6 (fun w' => Below wr.drew.heap.size wr.drew w') (by kernel_rfl) (by decide) ?_
            refine walkT_take (i := 0) (v := ?_) rfl (by kernel_rfl) (fun _ _ _ h => h) ⟨Or.inl ⟨by rfl, ?_⟩, fun _ => rfl⟩ (Below.refl _ _) ?_
            rotate_left
            · intro u hu
              go_simp
              try rfl
            simp only [Act.put]
            refine walkT_take (i := 1) (v := ?_) rfl (by kernel_rfl) (fun _ _ _ h => h) ⟨Or.inl ⟨by rfl, ?_⟩, fun _ => rfl⟩ (Below.refl _ _) ?_
            rotate_left
            · intro u hu
              go_simp
              try rfl
            simp only [Act.put]
            refine walkT_take (i := 3) (v := ?_) rfl (by kernel_rfl) (fun _ _ _ h => h) ⟨Or.inl ⟨by rfl, ?_⟩, fun _ => rfl⟩ (Below.refl _ _) ?_
            rotate_left
            · intro u hu
              go_simp
              try rfl
            simp only [Act.put]
            refine walkT_take (i := 4) (v := ?_) rfl (by kernel_rfl) (fun _ _ _ h => h) ⟨Or.inl ⟨by rfl, ?_⟩, fun _ => rfl⟩ (Below.refl _ _) ?_
            rotate_left
            · intro u hu
              have h8 := RC0.out u hu
              go_simp
              try rfl
            simp only [Act.put]
            refine walkT_step (i := 2) rfl (by kernel_rfl) (fun K hK => ?_)
            rw [if_pos (by rfl)]
            go_simp
            refine ⟨trivial, ?_⟩
            refine (callsIn_wide.2 (HPT.out _ HJD.out.be)).mono ?_
            rintro r w11 ⟨rfl, hb11⟩
            refine hK _ _ hb11 ?_
            clear hK K
            have J11 := HJD.out.up hb11
            refine walkT_step (i := 5) rfl (by kernel_rfl) (fun K hK => ?_)
            rw [if_pos (by rfl)]
            go_simp
            refine ⟨trivial, ?_⟩
            refine (callsIn_wide.2 (HIT.out _ J11.be)).mono ?_
            rintro r w12 ⟨rfl, hb12⟩
            refine hK _ _ (bt hb11 hb12) ?_
            clear hK K
            have J12 := J11.up hb12
            obtain ⟨v2, hrow, hown⟩ := J12.x
            obtain ⟨x1, x2, x3, rfl⟩ := hown.form
            try simp only at hrow
            have k0 : w12.cell? ⟨xb, 0, none⟩ = some (.int .i8 f) := hrow.blk.cell 0 rfl
            have f0 := hrow.blk.free 0
            have k1 : w12.cell? ⟨xb, 1, none⟩ = some (.string ⟨#[]⟩) := hrow.blk.cell 1 rfl
            have f1 := hrow.blk.free 1
            have k2 : w12.cell? ⟨xb, 2, none⟩ = some (.string ⟨#[]⟩) := hrow.blk.cell 2 rfl
            have f2 := hrow.blk.free 2
            have k3 : w12.cell? ⟨xb, 3, none⟩ = some (.string ⟨#[]⟩) := hrow.blk.cell 3 rfl
            have f3 := hrow.blk.free 3
            have k4 : w12.cell? ⟨xb, 4, none⟩ = some (.string ⟨#[]⟩) := hrow.blk.cell 4 rfl
            have f4 := hrow.blk.free 4
            have k5 : w12.cell? ⟨xb, 5, none⟩ = some (.string ⟨#[]⟩) := hrow.blk.cell 5 rfl
            have f5 := hrow.blk.free 5
            have k6 : w12.cell? ⟨xb, 6, none⟩ = some (.string ⟨#[]⟩) := hrow.blk.cell 6 rfl
            have f6 := hrow.blk.free 6
            have k7 : w12.cell? ⟨xb, 7, none⟩ = some (.int .i8 0) := hrow.blk.cell 7 rfl
            have f7 := hrow.blk.free 7
            have JH := PdS.hd J12 H
            unfold World.setHd at JH
            have HJH := Lib.hid JH
            clear hrow hown J11 J12 JH hb11 hb12 RC0 HPT HIT HJD
            refine walkT_tail (by kernel_rfl) ?_
            simp only [List.drop_succ_cons, List.drop_zero]
            gi_wp2_with fail
            have J := HJH.out
            generalize ((((((w12.setCell ⟨xb, 1, none⟩ (.string H.id)).setCell ⟨xb, 2, none⟩ (.string H.title)).setCell ⟨xb, 3, none⟩ (.string H.link)).setCell ⟨xb, 4, none⟩ (.string H.author)).setCell ⟨xb, 5, none⟩ (.string H.content)).setCell ⟨xb, 6, none⟩ (.string H.date)).setCell ⟨xb, 7, none⟩ (.int .i8 H.kind) = w13 at J ⊢
            clear HJH k0 k1 k2 k3 k4 k5 k6 k7 f0 f1 f2 f3 f4 f5 f6 f7 x1 x2 x3
            obtain ⟨v3, hrow, hown⟩ := J.x
            try simp only at hrow
            have k0 : w13.cell? ⟨xb, 0, none⟩ = some (.int .i8 f) := hrow.blk.cell 0 rfl
            clear hrow hown v3
            rcases HFO.out with hf | hf
            · subst hf
              have HIF := Lib.hid (fun (u : World) (hu : Below w.heap.size w u) => ref23_items B es _ x 1 u (FE.out u hu) HG.out HU.out (.inl rfl))
              go_wp2_with fail
              refine (HIF.out _ J.be).mono ?_
              rintro r w14 ⟨u14, rfl, hu14, hb14⟩
              obtain ⟨x1, x2, x3, rfl⟩ := hu14.form
              have J14 := J.up hb14
              obtain ⟨v3, hrow, hown⟩ := J14.x
              obtain ⟨x4, x5, x6, rfl⟩ := hown.form
              try simp only at hrow
              have k8 : w14.cell? ⟨xb, 8, none⟩ = some (.slice x4 x5 x6) := hrow.blk.cell 8 rfl
              have f8 := hrow.blk.free 8
              have JI := PdS.its J14 (Below.refl _ _) (hu14.mono J.sz)
              have HJI := Lib.hid JI
              clear hrow hown J14 JI hu14 HIF k0 J
              go_wp2_with fail
              have J := HJI.out
              generalize w14.setCell ⟨xb, 8, none⟩ (.slice x1 x2 x3) = w15 at J ⊢
              clear k8 f8 HJI
              have HFD := Lib.hid (show feedR es = ⟨1, H, itemsP es x 1 ++ itemsP es 0 1⟩ by
                rw [HFE.out]
                unfold chFrom
                simp)
              have HLN := Lib.hid (show (itemsP es x 1).length + (itemsP es 0 1).length ≤ 1000000 by
                have h1 := itemsP_len es 0 1
                have h2 := itemsP_len es x 1
                rw [HNN.out] at h1 h2
                omega)
              try simp only at J
              have JD := PdS.up J (Below.refl _ w15).drew
              obtain ⟨v0, hrow, hown⟩ := JD.x
              obtain ⟨y1, y2, y3, rfl⟩ := hown.form
              try simp only at hrow hown
              have RC8 := Lib.hid (fun (u : World) (hu : Below w15.drew.heap.size w15.drew u) => (show u.cell? ⟨xb, 8, none⟩ = some (.slice y1 y2 y3) ∧ u.cell? ⟨xb, 0, none⟩ = some (.int .i8 1) from ⟨(hrow.below hu hrow.lt).blk.cell 8 rfl, (hrow.below hu hrow.lt).blk.cell 0 rfl⟩))
              have HIC := Lib.hid (fun (u : World) (hu : Below w15.drew.heap.size w15.drew u) => ref23_items B es _ 0 1 u (FE.out u (bt JD.be hu)) HG.out HT.out (.inl rfl))
              have HJD := Lib.hid JD
              have HROW := Lib.hid hrow
              have HOWN := Lib.hid hown
              clear J JD hrow hown
              refine (wpIn_wide (n := 6)).1 ?_
              refine wpIn_region_T 6 (fun w' => Below w15.drew.heap.size w15.drew w') (by kernel_rfl) (by decide) ?_
              refine walkT_take (i := 0) (v := ?_) rfl (by kernel_rfl) (fun _ _ _ h => h) ⟨Or.inl ⟨by rfl, ?_⟩, fun _ => rfl⟩ (Below.refl _ _) ?_
              rotate_left
              · intro u hu
                go_simp
                try rfl
              simp only [Act.put]
              refine walkT_take (i := 1) (v := ?_) rfl (by kernel_rfl) (fun _ _ _ h => h) ⟨Or.inl ⟨by rfl, ?_⟩, fun _ => rfl⟩ (Below.refl _ _) ?_
              rotate_left
              · intro u hu
                have h8 := (RC8.out u hu).1
                go_simp
                try rfl
              simp only [Act.put]
              refine walkT_take (i := 2) (v := ?_) rfl (by kernel_rfl) (fun _ _ _ h => h) ⟨Or.inl ⟨by rfl, ?_⟩, fun _ => rfl⟩ (Below.refl _ _) ?_
              rotate_left
              · intro u hu
                go_simp
                try rfl
              simp only [Act.put]
              refine walkT_take (i := 3) (v := ?_) rfl (by kernel_rfl) (fun _ _ _ h => h) ⟨Or.inl ⟨by rfl, ?_⟩, fun _ => rfl⟩ (Below.refl _ _) ?_
              rotate_left
              · intro u hu
                go_simp
                try rfl
              simp only [Act.put]
              refine walkT_take (i := 4) (v := ?_) rfl (by kernel_rfl) (fun _ _ _ h => h) ⟨Or.inl ⟨by rfl, ?_⟩, fun _ => rfl⟩ (Below.refl _ _) ?_
              rotate_left
              · intro u hu
                have h8 := (RC8.out u hu).2
                go_simp
                try rfl
              simp only [Act.put]
              refine walkT_step (i := 5) rfl (by kernel_rfl) (fun K hK => ?_)
              rw [if_pos (by rfl)]
              go_simp
              refine ⟨trivial, ?_⟩
              refine (callsIn_wide.2 (HIC.out _ (Below.refl _ _))).mono ?_
              rintro r w19 ⟨u19, rfl, hu19, hb19⟩
              refine hK _ _ hb19 ?_
              clear hK K
              obtain ⟨y4, y5, y6, rfl⟩ := hu19.form
              have hl := HLN.out
              have J19 := HJD.out.up hb19
              have O19 := HOWN.out.below hb19 (Nat.le_refl _)
              obtain ⟨a5, c5, w20, hr20, O20, hb20⟩ := O19.apps (CReads.of_own hu19) J19.sz hl
              obtain ⟨N, hN⟩ : ∃ N, (itemsP es x 1 ++ itemsP es 0 1).length = N := ⟨_, rfl⟩
              rw [hN] at hr20 O20
              have J21 := PdS.its J19 hb20 O20
              have hr20' : Sem.run Try.prog (AppV #[48, 48] 48 #[.slice y1 y2 y3, .slice y4 y5 y6]) w19 = .ok (.slice a5 N c5) w20 := hr20
              have row20 := (HROW.out.below hb19 HROW.out.lt).below hb20 (Nat.lt_succ_self _)
              have e2 : w20.cell? ⟨xb, 8, none⟩ = some (.slice y1 y2 y3) := row20.blk.cell 8 rfl
              have e3 := row20.blk.free 8
              have HJ21 := Lib.hid J21
              clear hr20 O20 O19 J19 J21 row20 hb20 hu19 hN RC8 HIC HJD HROW HOWN hl
              refine walkT_tail (by kernel_rfl) ?_
              simp only [List.drop_succ_cons, List.drop_zero]
              gi_wp2_with fail
              have J := HJ21.out
              generalize w20.setCell ⟨xb, 8, none⟩ (.slice a5 N c5) = w21 at J ⊢
              clear e2 e3 hr20' HJ21
              have HBE := Lib.hid J.be
              obtain ⟨v1, hrow, hown⟩ := J.x
              obtain ⟨z1, z2, z3, rfl⟩ := hown.form
              try simp only at hrow hown
              have HOW := Lib.hid hown
              have HR0 := Lib.hid J.r0
              have HX := Lib.hid J.hx
              have k0 : w21.cell? ⟨xb, 0, none⟩ = some (.int .i8 1) := hrow.blk.cell 0 rfl
              have k1 : w21.cell? ⟨xb, 1, none⟩ = some (.string (H).id) := hrow.blk.cell 1 rfl
              have k2 : w21.cell? ⟨xb, 2, none⟩ = some (.string (H).title) := hrow.blk.cell 2 rfl
              have k3 : w21.cell? ⟨xb, 3, none⟩ = some (.string (H).link) := hrow.blk.cell 3 rfl
              have k4 : w21.cell? ⟨xb, 4, none⟩ = some (.string (H).author) := hrow.blk.cell 4 rfl
              have k5 : w21.cell? ⟨xb, 5, none⟩ = some (.string (H).content) := hrow.blk.cell 5 rfl
              have k6 : w21.cell? ⟨xb, 6, none⟩ = some (.string (H).date) := hrow.blk.cell 6 rfl
              have k7 : w21.cell? ⟨xb, 7, none⟩ = some (.int .i8 (H).kind) := hrow.blk.cell 7 rfl
              have k8 : w21.cell? ⟨xb, 8, none⟩ = some (.slice z1 z2 z3) := hrow.blk.cell 8 rfl
              have r0 : w21.cell? ⟨w.heap.size, 0, none⟩ = some (.int .i8 0) := J.r0.blk.cell 0 rfl
              have q0 := J.r0.blk.free 0
              have r1 : w21.cell? ⟨w.heap.size, 1, none⟩ = some (.string ⟨#[]⟩) := J.r0.blk.cell 1 rfl
              have q1 := J.r0.blk.free 1
              have r2 : w21.cell? ⟨w.heap.size, 2, none⟩ = some (.string ⟨#[]⟩) := J.r0.blk.cell 2 rfl
              have q2 := J.r0.blk.free 2
              have r3 : w21.cell? ⟨w.heap.size, 3, none⟩ = some (.string ⟨#[]⟩) := J.r0.blk.cell 3 rfl
              have q3 := J.r0.blk.free 3
              have r4 : w21.cell? ⟨w.heap.size, 4, none⟩ = some (.string ⟨#[]⟩) := J.r0.blk.cell 4 rfl
              have q4 := J.r0.blk.free 4
              have r5 : w21.cell? ⟨w.heap.size, 5, none⟩ = some (.string ⟨#[]⟩) := J.r0.blk.cell 5 rfl
              have q5 := J.r0.blk.free 5
              have r6 : w21.cell? ⟨w.heap.size, 6, none⟩ = some (.string ⟨#[]⟩) := J.r0.blk.cell 6 rfl
              have q6 := J.r0.blk.free 6
              have r7 : w21.cell? ⟨w.heap.size, 7, none⟩ = some (.int .i8 0) := J.r0.blk.cell 7 rfl
              have q7 := J.r0.blk.free 7
              have r8 : w21.cell? ⟨w.heap.size, 8, none⟩ = some (.slice none 0 0) := J.r0.blk.cell 8 rfl
              have q8 := J.r0.blk.free 8
              clear hrow hown J
              go_wp2_with fail
              refine bodyPost_ret (results_cell2 rfl _ _ _ _ _ rfl (raw_set HR0.out _ _ _ _ _ _ _ _ _).blk Try.underlying50 rfl (by kernel_rfl)) rfl ?_
              unfold PdC
              rw [HFD.out, if_neg (by rw [HKT.out]; exact HFN.out)]
              exact ⟨_, rfl, ⟨.slice z1 z2 z3, rfl, OwnX.mono (raw_own (OwnX.mono HOW.out (Nat.succ_le_succ (Nat.le_of_lt HX.out))) (Nat.lt_succ_self _) _ _ _ _ _ _ _ _ _) (Nat.le_succ _)⟩, raw_below HBE.out (Nat.le_refl _) _ _ _ _ _ _ _ _ _⟩
            · subst hf
              go_wp2_with fail
              have HFD := Lib.hid (show feedR es = ⟨2, H, [] ++ itemsP es 0 2⟩ by
                rw [HFE.out]
                unfold chFrom
                simp)
              have HLN := Lib.hid (show ([] : List Itm).length + (itemsP es 0 2).length ≤ 1000000 by
                have h1 := itemsP_len es 0 2
                rw [HNN.out] at h1
                simp
                omega)
              clear k0
              have JD := PdS.up J (Below.refl _ w13).drew
              obtain ⟨v0, hrow, hown⟩ := JD.x
              obtain ⟨y1, y2, y3, rfl⟩ := hown.form
              try simp only at hrow hown
              have RC8 := Lib.hid (fun (u : World) (hu : Below w13.drew.heap.size w13.drew u) => (show u.cell? ⟨xb, 8, none⟩ = some (.slice y1 y2 y3) ∧ u.cell? ⟨xb, 0, none⟩ = some (.int .i8 2) from ⟨(hrow.below hu hrow.lt).blk.cell 8 rfl, (hrow.below hu hrow.lt).blk.cell 0 rfl⟩))
              have HIC := Lib.hid (fun (u : World) (hu : Below w13.drew.heap.size w13.drew u) => ref23_items B es _ 0 2 u (FE.out u (bt JD.be hu)) HG.out HT.out (.inr rfl))
              have HJD := Lib.hid JD
              have HROW := Lib.hid hrow
              have HOWN := Lib.hid hown
              clear J JD hrow hown
              refine (wpIn_wide (n := 6)).1 ?_
              refine wpIn_region_T 6 (fun w' => Below w13.drew.heap.size w13.drew w') (by kernel_rfl) (by decide) ?_
              refine walkT_take (i := 0) (v := ?_) rfl (by kernel_rfl) (fun _ _ _ h => h) ⟨Or.inl ⟨by rfl, ?_⟩, fun _ => rfl⟩ (Below.refl _ _) ?_
              rotate_left
              · intro u hu
                go_simp
                try rfl
              simp only [Act.put]
              refine walkT_take (i := 1) (v := ?_) rfl (by kernel_rfl) (fun _ _ _ h => h) ⟨Or.inl ⟨by rfl, ?_⟩, fun _ => rfl⟩ (Below.refl _ _) ?_
              rotate_left
              · intro u hu
                have h8 := (RC8.out u hu).1
                go_simp
                try rfl
              simp only [Act.put]
              refine walkT_take (i := 2) (v := ?_) rfl (by kernel_rfl) (fun _ _ _ h => h) ⟨Or.inl ⟨by rfl, ?_⟩, fun _ => rfl⟩ (Below.refl _ _) ?_
              rotate_left
              · intro u hu
                go_simp
                try rfl
              simp only [Act.put]
              refine walkT_take (i := 3) (v := ?_) rfl (by kernel_rfl) (fun _ _ _ h => h) ⟨Or.inl ⟨by rfl, ?_⟩, fun _ => rfl⟩ (Below.refl _ _) ?_
              rotate_left
              · intro u hu
                go_simp
                try rfl
              simp only [Act.put]
              refine walkT_take (i := 4) (v := ?_) rfl (by kernel_rfl) (fun _ _ _ h => h) ⟨Or.inl ⟨by rfl, ?_⟩, fun _ => rfl⟩ (Below.refl _ _) ?_
              rotate_left
              · intro u hu
                have h8 := (RC8.out u hu).2
                go_simp
                try rfl
              simp only [Act.put]
              refine walkT_step (i := 5) rfl (by kernel_rfl) (fun K hK => ?_)
              rw [if_pos (by rfl)]
              go_simp
              refine ⟨trivial, ?_⟩
              refine (callsIn_wide.2 (HIC.out _ (Below.refl _ _))).mono ?_
              rintro r w19 ⟨u19, rfl, hu19, hb19⟩
              refine hK _ _ hb19 ?_
              clear hK K
              obtain ⟨y4, y5, y6, rfl⟩ := hu19.form
              have hl := HLN.out
              have J19 := HJD.out.up hb19
              have O19 := HOWN.out.below hb19 (Nat.le_refl _)
              obtain ⟨a5, c5, w20, hr20, O20, hb20⟩ := O19.apps (CReads.of_own hu19) J19.sz hl
              obtain ⟨N, hN⟩ : ∃ N, ([] ++ itemsP es 0 2).length = N := ⟨_, rfl⟩
              rw [hN] at hr20 O20
              have J21 := PdS.its J19 hb20 O20
              have hr20' : Sem.run Try.prog (AppV #[48, 48] 48 #[.slice y1 y2 y3, .slice y4 y5 y6]) w19 = .ok (.slice a5 N c5) w20 := hr20
              have row20 := (HROW.out.below hb19 HROW.out.lt).below hb20 (Nat.lt_succ_self _)
              have e2 : w20.cell? ⟨xb, 8, none⟩ = some (.slice y1 y2 y3) := row20.blk.cell 8 rfl
              have e3 := row20.blk.free 8
              have HJ21 := Lib.hid J21
              clear hr20 O20 O19 J19 J21 row20 hb20 hu19 hN RC8 HIC HJD HROW HOWN hl
              refine walkT_tail (by kernel_rfl) ?_
              simp only [List.drop_succ_cons, List.drop_zero]
              gi_wp2_with fail
              have J := HJ21.out
              generalize w20.setCell ⟨xb, 8, none⟩ (.slice a5 N c5) = w21 at J ⊢
              clear e2 e3 hr20' HJ21
              have HBE := Lib.hid J.be
              obtain ⟨v1, hrow, hown⟩ := J.x
              obtain ⟨z1, z2, z3, rfl⟩ := hown.form
              try simp only at hrow hown
              have HOW := Lib.hid hown
              have HR0 := Lib.hid J.r0
              have HX := Lib.hid J.hx
              have k0 : w21.cell? ⟨xb, 0, none⟩ = some (.int .i8 2) := hrow.blk.cell 0 rfl
              have k1 : w21.cell? ⟨xb, 1, none⟩ = some (.string (H).id) := hrow.blk.cell 1 rfl
              have k2 : w21.cell? ⟨xb, 2, none⟩ = some (.string (H).title) := hrow.blk.cell 2 rfl
              have k3 : w21.cell? ⟨xb, 3, none⟩ = some (.string (H).link) := hrow.blk.cell 3 rfl
              have k4 : w21.cell? ⟨xb, 4, none⟩ = some (.string (H).author) := hrow.blk.cell 4 rfl
              have k5 : w21.cell? ⟨xb, 5, none⟩ = some (.string (H).content) := hrow.blk.cell 5 rfl
              have k6 : w21.cell? ⟨xb, 6, none⟩ = some (.string (H).date) := hrow.blk.cell 6 rfl
              have k7 : w21.cell? ⟨xb, 7, none⟩ = some (.int .i8 (H).kind) := hrow.blk.cell 7 rfl
              have k8 : w21.cell? ⟨xb, 8, none⟩ = some (.slice z1 z2 z3) := hrow.blk.cell 8 rfl
              have r0 : w21.cell? ⟨w.heap.size, 0, none⟩ = some (.int .i8 0) := J.r0.blk.cell 0 rfl
              have q0 := J.r0.blk.free 0
              have r1 : w21.cell? ⟨w.heap.size, 1, none⟩ = some (.string ⟨#[]⟩) := J.r0.blk.cell 1 rfl
              have q1 := J.r0.blk.free 1
              have r2 : w21.cell? ⟨w.heap.size, 2, none⟩ = some (.string ⟨#[]⟩) := J.r0.blk.cell 2 rfl
              have q2 := J.r0.blk.free 2
              have r3 : w21.cell? ⟨w.heap.size, 3, none⟩ = some (.string ⟨#[]⟩) := J.r0.blk.cell 3 rfl
              have q3 := J.r0.blk.free 3
              have r4 : w21.cell? ⟨w.heap.size, 4, none⟩ = some (.string ⟨#[]⟩) := J.r0.blk.cell 4 rfl
              have q4 := J.r0.blk.free 4
              have r5 : w21.cell? ⟨w.heap.size, 5, none⟩ = some (.string ⟨#[]⟩) := J.r0.blk.cell 5 rfl
              have q5 := J.r0.blk.free 5
              have r6 : w21.cell? ⟨w.heap.size, 6, none⟩ = some (.string ⟨#[]⟩) := J.r0.blk.cell 6 rfl
              have q6 := J.r0.blk.free 6
              have r7 : w21.cell? ⟨w.heap.size, 7, none⟩ = some (.int .i8 0) := J.r0.blk.cell 7 rfl
              have q7 := J.r0.blk.free 7
              have r8 : w21.cell? ⟨w.heap.size, 8, none⟩ = some (.slice none 0 0) := J.r0.blk.cell 8 rfl
              have q8 := J.r0.blk.free 8
              clear hrow hown J
              go_wp2_with fail
              refine bodyPost_ret (results_cell2 rfl _ _ _ _ _ rfl (raw_set HR0.out _ _ _ _ _ _ _ _ _).blk Try.underlying50 rfl (by kernel_rfl)) rfl ?_
              unfold PdC
              rw [HFD.out, if_neg (by rw [HKT.out]; exact HFN.out)]
              exact ⟨_, rfl, ⟨.slice z1 z2 z3, rfl, OwnX.mono (raw_own (OwnX.mono HOW.out (Nat.succ_le_succ (Nat.le_of_lt HX.out))) (Nat.lt_succ_self _) _ _ _ _ _ _ _ _ _) (Nat.le_succ _)⟩, raw_below HBE.out (Nat.le_refl _) _ _ _ _ _ _ _ _ _⟩
end Go.Proofs.Yteefopeclfojiaa
/- 
  Layer 23: the law RssTells.
 -/
namespace Go.Proofs.Yteefopeclfojiaa
open Go.RowKit Go.Sort
attribute [local go_sem] Oper.semAt_some
set_option maxRecDepth 100000 in
set_option maxHeartbeats 16000000 in
theorem law_RssTells (v : Value) (es : List Evt) (nv : Value) (ns : List NmT) (n : ByteArray × ByteArray) (w : World) (hl : EvsIn w v es) (hN : NsR w nv ns) (hn : NmIn n) :
    Calls Try.prog 11 #[v, nv, .agg #[.string n.1, .string n.2]] w fun r w' => r = .returned (.bool true) ∧ Below w.heap.size w w' := by
  obtain ⟨avs, ⟨a, cap, rfl, -⟩, -⟩ := id hl.r
  obtain ⟨na, nc, rfl⟩ := hN.form
  obtain ⟨n1, n2⟩ := n
  obtain ⟨z1, z2⟩ := hn
  simp only at z1 z2 ⊢
  have hb0 := (Below.refl w.heap.size w).alloc (Nat.le_refl _) (.cells #[.string n1, .string n2] 24)
  have bX := RowAt.new w #[.string n1, .string n2] 24
  have G1 := Lib.hid (ref23_Great w.heap.size es _ _ (hl.r.below hb0 (Nat.le_refl _)) hb0.size hl.at_.n hl.small)
  have HW := Lib.hid law23_wakes
  have HL := Lib.hid hl
  obtain ⟨nn, hnn⟩ : ∃ n, es.length = n := ⟨_, rfl⟩
  obtain ⟨p, hp⟩ : ∃ n, ns.length = n := ⟨_, rfl⟩
  rw [hnn] at HL G1 ⊢
  rw [hp] at hN ⊢
  have HNN := Lib.hid hnn
  have HPP := Lib.hid hp
  have HN := Lib.hid hN
  clear hl hnn hN hp
  go_enter Try.func11, Try.ntmps11
  go_wp2_with fail
  generalize w.alloc (.cells #[.string n1, .string n2] 24) = w0 at hb0 bX G1 ⊢
  refine (G1.out).mono ?_
  rintro r w1 ⟨b1, rfl, hg1, rfl⟩
  cases b1 with
  | true =>
    clear hg1
    go_wp2_with fail
    refine (HW.out _).mono ?_
    rintro r w9 ⟨rfl, hb9⟩
    go_wp2_with fail
    go_ret
    exact ⟨rfl, bt hb0 hb9⟩
  | false =>
    have HE := Lib.hid ((hg1 rfl).rev HL.out.r HL.out.cap)
    clear hg1 G1
    by_cases h20 : 20 < p
    · have hd := decide_eq_true (show (20 : Int) < (p : Int) by omega)
      go_wp2_with fail
      refine (HW.out _).mono ?_
      rintro r w9 ⟨rfl, hb9⟩
      go_wp2_with fail
      go_ret
      exact ⟨rfl, bt hb0 hb9⟩
    · have hd := decide_eq_false (show ¬ (20 : Int) < (p : Int) by omega)
      have d0 : w0.cell? ⟨w.heap.size, 0, none⟩ = some (.string n1) := bX.blk.cell 0 rfl
      have d1 : w0.cell? ⟨w.heap.size, 1, none⟩ = some (.string n2) := bX.blk.cell 1 rfl
      by_cases h21 : 300 < n2.size
      · have hd2 := decide_eq_true (show (300 : Int) < (n2.size : Int) by omega)
        go_wp2_with fail
        refine (HW.out _).mono ?_
        rintro r w9 ⟨rfl, hb9⟩
        go_wp2_with fail
        go_ret
        exact ⟨rfl, bt hb0 hb9⟩
      · have hd2 := decide_eq_false (show ¬ (300 : Int) < (n2.size : Int) by omega)
        by_cases h22 : 300 < n1.size
        · have hd3 := decide_eq_true (show (300 : Int) < (n1.size : Int) by omega)
          go_wp2_with fail
          refine (HW.out _).mono ?_
          rintro r w9 ⟨rfl, hb9⟩
          go_wp2_with fail
          go_ret
          exact ⟨rfl, bt hb0 hb9⟩
        · have hd3 := decide_eq_false (show ¬ (300 : Int) < (n1.size : Int) by omega)
          have hP1 := rss_Parse w.heap.size es _ w0 (HE.out.below hb0)
          have hPF := fun (u : World) (hu : Below w.heap.size w u) => rss_Field w.heap.size es _ ns _ u (HE.out.below hu) (HN.out.below hu) (by rw [HPP.out]; omega)
          have hPG := fun (u : World) (hu : Below w.heap.size w u) => ref23_Field w.heap.size es _ ns _ u (HE.out.below hu) (HN.out.below hu) (by rw [HPP.out]; omega)
          have hP2 := fun (u : World) (hu : Below w.heap.size w u) => ref23_Parse w.heap.size es _ u (HE.out.below hu)
          unfold PaC at hP1
          unfold PdC at hP2
          obtain ⟨E, hEE⟩ : ∃ E, (if kindP es = 0 then (43 : Int) else 0) = E := ⟨_, rfl⟩
          obtain ⟨⟨fs, fk⟩, hFR⟩ : ∃ x, fieldP es ns = x := ⟨_, rfl⟩
          have hRL : (feedR es).items.length ≤ 1000000 := by
            have h1 := feedR_cnt es
            have h2 := cntI_le es
            have h3 := HE.out.f.n
            rw [HNN.out] at h2 h3
            omega
          obtain ⟨R, hR⟩ : ∃ R, feedR es = R := ⟨_, rfl⟩
          rw [hR] at hRL
          simp only [hEE, hR] at hP1 hP2
          simp only [hFR] at hPF hPG
          have HP1 := Lib.hid hP1
          have HP2 := Lib.hid hP2
          have HPF := Lib.hid hPF
          have HPG := Lib.hid hPG
          have HRL := Lib.hid hRL
          have HSM := Lib.hid (fun (x y : Value) (u : World) (hx : CReads u.heap.size u x R.items.length (itsC R.items)) (hy : CReads u.heap.size u y R.items.length (itsC R.items)) => ref23_SameRaw R x y u hx hy hRL)
          clear hP1 hP2 hPF hPG hRL hEE hFR hR
          go_wp2_with fail
          clear d0 d1
          refine (HP1.out).mono ?_
          rintro r w2 ⟨u1, rfl, ⟨x1, rfl, hx1⟩, hb2⟩
          replace bX := bX.below hb2 bX.lt
          replace hb2 := bt hb0 hb2
          obtain ⟨pa, ea, ca, rfl⟩ := hx1.form
          have CX := CReads.of_own hx1
          have B1 := RowAt.new w2 #[.int .i8 R.fmt, .string R.head.id, .string R.head.title, .string R.head.link, .string R.head.author, .string R.head.content, .string R.head.date, .int .i8 R.head.kind, .slice pa ea ca] 50
          replace bX := bX.alloc (.cells #[.int .i8 R.fmt, .string R.head.id, .string R.head.title, .string R.head.link, .string R.head.author, .string R.head.content, .string R.head.date, .int .i8 R.head.kind, .slice pa ea ca] 50)
          have hb3 := hb2.alloc hb2.size (.cells #[.int .i8 R.fmt, .string R.head.id, .string R.head.title, .string R.head.link, .string R.head.author, .string R.head.content, .string R.head.date, .int .i8 R.head.kind, .slice pa ea ca] 50)
          have hba : Below w2.heap.size w2 (w2.alloc (.cells #[.int .i8 R.fmt, .string R.head.id, .string R.head.title, .string R.head.link, .string R.head.author, .string R.head.content, .string R.head.date, .int .i8 R.head.kind, .slice pa ea ca] 50)) := (Below.refl _ w2).alloc (Nat.le_refl _) _
          replace CX := (CX.below hba (Nat.le_refl _)).mono hba.size
          unfold rawC
          go_wp2_with fail
          generalize w2.alloc (.cells #[.int .i8 R.fmt, .string R.head.id, .string R.head.title, .string R.head.link, .string R.head.author, .string R.head.content, .string R.head.date, .int .i8 R.head.kind, .slice pa ea ca] 50) = w3 at bX B1 hb3 CX ⊢
          generalize w2.heap.size = g1 at B1 ⊢
          clear hx1 hba hb2
          refine (HP2.out _ hb3).mono ?_
          rintro r w4 ⟨u2, rfl, ⟨x2, rfl, hx2⟩, hb4⟩
          replace B1 := B1.below hb4 B1.lt
          replace bX := bX.below hb4 bX.lt
          replace CX := (CX.below hb4 (Nat.le_refl _)).mono hb4.size
          replace hb4 := bt hb3 hb4
          obtain ⟨pb, eb, cb, rfl⟩ := hx2.form
          have CY := CReads.of_own hx2
          have B2 := RowAt.new w4 #[.int .i8 R.fmt, .string R.head.id, .string R.head.title, .string R.head.link, .string R.head.author, .string R.head.content, .string R.head.date, .int .i8 R.head.kind, .slice pb eb cb] 50
          replace B1 := B1.alloc (.cells #[.int .i8 R.fmt, .string R.head.id, .string R.head.title, .string R.head.link, .string R.head.author, .string R.head.content, .string R.head.date, .int .i8 R.head.kind, .slice pb eb cb] 50)
          replace bX := bX.alloc (.cells #[.int .i8 R.fmt, .string R.head.id, .string R.head.title, .string R.head.link, .string R.head.author, .string R.head.content, .string R.head.date, .int .i8 R.head.kind, .slice pb eb cb] 50)
          have hb5 := hb4.alloc hb4.size (.cells #[.int .i8 R.fmt, .string R.head.id, .string R.head.title, .string R.head.link, .string R.head.author, .string R.head.content, .string R.head.date, .int .i8 R.head.kind, .slice pb eb cb] 50)
          have hba : Below w4.heap.size w4 (w4.alloc (.cells #[.int .i8 R.fmt, .string R.head.id, .string R.head.title, .string R.head.link, .string R.head.author, .string R.head.content, .string R.head.date, .int .i8 R.head.kind, .slice pb eb cb] 50)) := (Below.refl _ w4).alloc (Nat.le_refl _) _
          replace CX := (CX.below hba (Nat.le_refl _)).mono hba.size
          replace CY := (CY.below hba (Nat.le_refl _)).mono hba.size
          unfold rawC
          go_wp2_with fail
          generalize w4.alloc (.cells #[.int .i8 R.fmt, .string R.head.id, .string R.head.title, .string R.head.link, .string R.head.author, .string R.head.content, .string R.head.date, .int .i8 R.head.kind, .slice pb eb cb] 50) = w5 at bX B1 B2 hb5 CX CY ⊢
          generalize w4.heap.size = g2 at B2 ⊢
          clear hx2 hba hb4 hb3
          refine (HPF.out _ hb5).mono ?_
          rintro r w6 ⟨rfl, hb6⟩
          replace bX := bX.below hb6 bX.lt
          replace B1 := B1.below hb6 B1.lt
          replace B2 := B2.below hb6 B2.lt
          replace CX := (CX.below hb6 (Nat.le_refl _)).mono hb6.size
          replace CY := (CY.below hb6 (Nat.le_refl _)).mono hb6.size
          replace hb6 := bt hb5 hb6
          clear hb5
          go_wp2_with fail
          refine (HPG.out _ hb6).mono ?_
          rintro r w7 ⟨rfl, hb7⟩
          replace bX := bX.below hb7 bX.lt
          replace B1 := B1.below hb7 B1.lt
          replace B2 := B2.below hb7 B2.lt
          replace CX := (CX.below hb7 (Nat.le_refl _)).mono hb7.size
          replace CY := (CY.below hb7 (Nat.le_refl _)).mono hb7.size
          replace hb7 := bt hb6 hb7
          clear hb6
          go_wp2_with fail
          have s0 := toL_self fs
          have d0 := cell_regrown (show w7.cell? ⟨w.heap.size, 0, none⟩ = some (.string n1) from bX.blk.cell 0 rfl)
          have d1 := cell_regrown (show w7.cell? ⟨w.heap.size, 1, none⟩ = some (.string n2) from bX.blk.cell 1 rfl)
          have x0 := cell_regrown (show w7.cell? ⟨g1, 0, none⟩ = some (.int .i8 R.fmt) from B1.blk.cell 0 rfl)
          have x1 := cell_regrown (show w7.cell? ⟨g1, 1, none⟩ = some (.string R.head.id) from B1.blk.cell 1 rfl)
          have x2 := cell_regrown (show w7.cell? ⟨g1, 2, none⟩ = some (.string R.head.title) from B1.blk.cell 2 rfl)
          have x3 := cell_regrown (show w7.cell? ⟨g1, 3, none⟩ = some (.string R.head.link) from B1.blk.cell 3 rfl)
          have x4 := cell_regrown (show w7.cell? ⟨g1, 4, none⟩ = some (.string R.head.author) from B1.blk.cell 4 rfl)
          have x5 := cell_regrown (show w7.cell? ⟨g1, 5, none⟩ = some (.string R.head.content) from B1.blk.cell 5 rfl)
          have x6 := cell_regrown (show w7.cell? ⟨g1, 6, none⟩ = some (.string R.head.date) from B1.blk.cell 6 rfl)
          have x7 := cell_regrown (show w7.cell? ⟨g1, 7, none⟩ = some (.int .i8 R.head.kind) from B1.blk.cell 7 rfl)
          have x8 := cell_regrown (show w7.cell? ⟨g1, 8, none⟩ = some (.slice pa ea ca) from B1.blk.cell 8 rfl)
          have y0 := cell_regrown (show w7.cell? ⟨g2, 0, none⟩ = some (.int .i8 R.fmt) from B2.blk.cell 0 rfl)
          have y1 := cell_regrown (show w7.cell? ⟨g2, 1, none⟩ = some (.string R.head.id) from B2.blk.cell 1 rfl)
          have y2 := cell_regrown (show w7.cell? ⟨g2, 2, none⟩ = some (.string R.head.title) from B2.blk.cell 2 rfl)
          have y3 := cell_regrown (show w7.cell? ⟨g2, 3, none⟩ = some (.string R.head.link) from B2.blk.cell 3 rfl)
          have y4 := cell_regrown (show w7.cell? ⟨g2, 4, none⟩ = some (.string R.head.author) from B2.blk.cell 4 rfl)
          have y5 := cell_regrown (show w7.cell? ⟨g2, 5, none⟩ = some (.string R.head.content) from B2.blk.cell 5 rfl)
          have y6 := cell_regrown (show w7.cell? ⟨g2, 6, none⟩ = some (.string R.head.date) from B2.blk.cell 6 rfl)
          have y7 := cell_regrown (show w7.cell? ⟨g2, 7, none⟩ = some (.int .i8 R.head.kind) from B2.blk.cell 7 rfl)
          have y8 := cell_regrown (show w7.cell? ⟨g2, 8, none⟩ = some (.slice pb eb cb) from B2.blk.cell 8 rfl)
          have cS := fun (d : Nat) (os : Array Obj) => CallsIn.regrown_of (callsIn_wide (n := 5).2 (HSM.out _ _ (grow (redrawn w7 d) os) ((CX.below (below_regrown w7 d os) (Nat.le_refl _)).mono (below_regrown w7 d os).size) ((CY.below (below_regrown w7 d os) (Nat.le_refl _)).mono (below_regrown w7 d os).size)))
          have cK1 := fun (d : Nat) (os : Array Obj) => CallsIn.regrown_of (callsIn_wide (n := 5).2 (rss_Kind (n1, n2) (grow (redrawn w7 d) os)))
          have cK2 := fun (d : Nat) (os : Array Obj) => CallsIn.regrown_of (callsIn_wide (n := 5).2 (ref23_Kind (n1, n2) (grow (redrawn w7 d) os)))
          have cP1 := fun (d : Nat) (os : Array Obj) => CallsIn.regrown_of (callsIn_wide (n := 5).2 (rss_Plain (n1, n2) (grow (redrawn w7 d) os)))
          have cP2 := fun (d : Nat) (os : Array Obj) => CallsIn.regrown_of (callsIn_wide (n := 5).2 (ref23_Plain (n1, n2) (grow (redrawn w7 d) os)))
          have cW := fun (d : Nat) (os : Array Obj) => CallsIn.regrown_of (callsIn_wide (n := 5).2 (HW.out (grow (redrawn w7 d) os)))
          refine (wpIn_wide (n := 6)).1 ?_
          refine wpIn_region_below_tail 35 (by kernel_rfl) (by kernel_rfl) (by kernel_rfl) ?_
          simp only [List.take_succ_cons, List.take_zero, List.drop_succ_cons, List.drop_zero]
          repeat (refine wpQuietIn_step (askedR (fun _ => trivial)) (fun K hK => ?_); go_simp; refine hK _ ?_; clear hK K)
          refine wpQuietIn_step (askedR (fun _ => trivial)) (fun K hK => ?_)
          go_simp
          apply Exists.intro
          refine ⟨fun _ => cS _ _, hK _ ?_⟩
          clear hK K cS
          clear x0 x1 x2 x3 x4 x5 x6 x7 x8 y0 y1 y2 y3 y4 y5 y6 y7 y8 CX CY B1 B2 HSM
          repeat (refine wpQuietIn_step (askedR (fun _ => trivial)) (fun K hK => ?_); go_simp; refine hK _ ?_; clear hK K)
          refine wpQuietIn_step (askedR (fun _ => trivial)) (fun K hK => ?_)
          go_simp
          apply Exists.intro
          refine ⟨fun _ => cK1 _ _, hK _ ?_⟩
          clear hK K cK1
          repeat (refine wpQuietIn_step (askedR (fun _ => trivial)) (fun K hK => ?_); go_simp; refine hK _ ?_; clear hK K)
          refine wpQuietIn_step (askedR (fun _ => trivial)) (fun K hK => ?_)
          go_simp
          apply Exists.intro
          refine ⟨fun _ => cK2 _ _, hK _ ?_⟩
          clear hK K cK2
          repeat (refine wpQuietIn_step (askedR (fun _ => trivial)) (fun K hK => ?_); go_simp; refine hK _ ?_; clear hK K)
          refine wpQuietIn_step (askedR (fun _ => trivial)) (fun K hK => ?_)
          go_simp
          apply Exists.intro
          refine ⟨fun _ => cP1 _ _, hK _ ?_⟩
          clear hK K cP1
          repeat (refine wpQuietIn_step (askedR (fun _ => trivial)) (fun K hK => ?_); go_simp; refine hK _ ?_; clear hK K)
          refine wpQuietIn_step (askedR (fun _ => trivial)) (fun K hK => ?_)
          go_simp
          apply Exists.intro
          refine ⟨fun _ => cP2 _ _, hK _ ?_⟩
          clear hK K cP2
          repeat (refine wpQuietIn_step (askedR (fun _ => trivial)) (fun K hK => ?_); go_simp; refine hK _ ?_; clear hK K)
          refine wpQuietIn_step (askedR (fun _ => trivial)) (fun K hK => ?_)
          go_simp
          apply Exists.intro
          refine ⟨fun _ => cW _ _, hK _ ?_⟩
          clear hK K cW
          repeat (refine wpQuietIn_step (askedR (fun _ => trivial)) (fun K hK => ?_); go_simp; refine hK _ ?_; clear hK K)
          refine wpQuietIn_nil ?_
          rintro w8 ⟨⟨dq, osq⟩, hw8⟩
          have hb8 : Below w7.heap.size w7 w8 := by rw [hw8]; exact below_regrown w7 dq osq
          clear hw8
          gi_wp2_with fail
          go_wp2_with fail
          go_ret
          exact ⟨rfl, bt hb7 hb8⟩
end Go.Proofs.Yteefopeclfojiaa
