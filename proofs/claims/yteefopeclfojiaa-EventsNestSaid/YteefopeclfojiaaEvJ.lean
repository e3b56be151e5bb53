/-
  Layer 16: rows of events of the call's own; the walk of the document's Put.
-/
import Derived.Test.YteefopeclfojiaaEvU
import Derived.Deep.Upon
import Derived.StillTailTactics
namespace Go.Proofs.Yteefopeclfojiaa
open Go.RowKit
theorem evsC_app : ∀ (es : List Evt) (avs : List Value) (ms : List Evt) (bvs : List Value), avs.length = es.length → evsC (es ++ ms) (avs ++ bvs) = evsC es avs ++ evsC ms bvs
  | [], [], ms, bvs, _ => by simp [evsC]
  | e :: es, a :: as_, ms, bvs, h => by
    rw [List.cons_append, List.cons_append, evsC, evsC, evsC_app es as_ ms bvs (by simpa using h), List.append_assoc]
theorem AtsR.app {B : Nat} {w : World} : ∀ {es : List Evt} {avs : List Value} {ms : List Evt} {bvs : List Value}, AtsR B w es avs → AtsR B w ms bvs → AtsR B w (es ++ ms) (avs ++ bvs)
  | [], [], _, _, _, h => h
  | _ :: _, _ :: _, _, _, h, h2 => ⟨h.1, AtsR.app h.2 h2⟩
theorem evsC_one {B : Nat} {w : World} : ∀ {es : List Evt} {avs : List Value}, AtsR B w es avs → ∀ u ∈ evsC es avs, u.oneCell' = true
  | [], [], _, u, hu => by simp [evsC] at hu
  | e :: es, a :: as_, h, u, hu => by
    rw [evsC] at hu
    rcases List.mem_append.1 hu with hu | hu
    · refine evC_one ?_ u hu
      obtain ⟨x, c, rfl, -⟩ := h.1
      rfl
    · exact evsC_one h.2 u hu
/-- a row of events of the call's own; their attributes lie below B. -/
def OwnE (B base : Nat) (w : World) (v : Value) (es : List Evt) : Prop := ∃ avs, w.ownsRow base 30 5 v es.length (evsC es avs) ∧ AtsR B w es avs
theorem OwnE.nil (B base : Nat) (w : World) : OwnE B base w (.slice none 0 0) [] := ⟨[], World.ownsRow_nil _ _ _ _, trivial⟩
theorem OwnE.reads {B base : Nat} {w : World} {v : Value} {es : List Evt} (h : OwnE B base w v es) (hB : B ≤ w.heap.size) : EvsR w.heap.size w v es := by
  obtain ⟨avs, h1, h2⟩ := h
  exact ⟨avs, CReads.of_own h1, h2.mono hB⟩
theorem own_capR {w : World} {base : Nat} {e : TypeId} {size : Nat} {v : Value} {n : Nat} {xs : List Value} (h : w.ownsRow base e size v n xs) : CapR v n := by
  rcases h.2 with ⟨rfl, rfl⟩ | ⟨g, cap, cur, rfl, _, _, h2, h3, _⟩
  · exact ⟨none, 0, rfl, Nat.le_refl _, Nat.zero_le _⟩
  · exact ⟨_, cap, rfl, h2, h3⟩
theorem OwnE.cap {B base : Nat} {w : World} {v : Value} {es : List Evt} (h : OwnE B base w v es) : CapR v es.length := by
  obtain ⟨avs, h1, h2⟩ := h
  exact own_capR h1
theorem OwnE.below {B base : Nat} {w w' : World} {v : Value} {es : List Evt} (h : OwnE B base w v es) {C : Nat} (hb : Below C w w') (hC : w.heap.size ≤ C) (hB : B ≤ C) : OwnE B base w' v es := by
  obtain ⟨avs, h1, h2⟩ := h
  exact ⟨avs, own_below h1 hb hC, h2.below hb hB⟩
theorem OwnE.mono {B C base : Nat} {w : World} {v : Value} {es : List Evt} (h : OwnE B base w v es) (hBC : B ≤ C) : OwnE C base w v es := by
  obtain ⟨avs, h1, h2⟩ := h
  exact ⟨avs, h1, h2.mono hBC⟩
set_option maxRecDepth 100000 in
/-- 'append(l, ms...)' onto a row of the call's own. -/
theorem OwnE.apps {B base : Nat} {w : World} {v u : Value} {es ms : List Evt} (h : OwnE B base w v es) (hm : EvsR B w u ms) (hbb : B ≤ base) (hbase : base ≤ w.heap.size) (hn : es.length + ms.length ≤ 1000000) :
    ∃ v' w', (Builtin.append_ #[22, 22] 22 #[v, u]).run Try.prog w = .ok v' w' ∧ OwnE B base w' v' (es ++ ms) ∧ Below base w w' := by
  obtain ⟨avs, h1, h2⟩ := h
  obtain ⟨bvs, ⟨a, cap, rfl, hc⟩, h4⟩ := hm
  obtain ⟨i0, hi, hz0, hz1, hz2⟩ := info_parts infoEvt
  have hal := h2.len
  cases a with
  | none =>
    have hms : ms = [] := by
      cases ms with
      | nil => rfl
      | cons e r =>
        cases bvs with
        | nil => exact h4.elim
        | cons b bs =>
          obtain ⟨b, off, hh, -⟩ := hc 0 (.int .i8 e.k) rfl
          cases hh
    subst hms
    obtain ⟨x, l, c, hv⟩ := own_slice h1
    have hlc : l ≤ c := by
      obtain ⟨a', c', h5, h6, -⟩ := own_capR h1
      rw [hv] at h5
      injection h5 with h7 h8 h9
      omega
    subst hv
    refine ⟨_, w, run_append_nothing w _ _ _ _ i0 Try.underlying22 hi x l c hlc _ ⟨.inl ⟨_, Try.underlying22⟩, fun _ => rfl, rfl, rfl, by simp, by simp⟩, ?_, Below.refl _ _⟩
    rw [List.append_nil]
    exact ⟨avs, h1, h2⟩
  | some ad =>
    obtain ⟨v', w', hrun, k1, k2, _⟩ := run_append_own (P := Try.prog) w base 22 22 30 i0 _ 5 80 Try.underlying22 hi hz0 hz1 hz2 rfl (by decide) v es.length _ h1 ad ms.length cap (evsC ms bvs) (evsC_len ms bvs h4.len)
      (fun j u hj => by
        obtain ⟨b, off, hbb, _, hcc⟩ := hc j u hj
        injection hbb with hbb
        subst hbb
        rw [show (⟨b, off, none⟩ : Addr).add j = ⟨b, off + j, none⟩ by unfold Addr.add; split <;> simp_all]
        exact hcc)
      (evsC_one h4) (by unfold maxLen; omega) (by omega) hbase
    have hb := ownBelow h1 k2 (Nat.le_refl _) hbase
    refine ⟨v', w', hrun, ⟨avs ++ bvs, ?_, (h2.below hb hbb).app (h4.below hb hbb)⟩, hb⟩
    rw [evsC_app es avs ms bvs hal, List.length_append]
    exact k1
set_option maxRecDepth 100000 in
/-- 'append(l, x)' onto a row of the call's own. -/
theorem OwnE.app1 {B base : Nat} {w : World} {v : Value} {es : List Evt} (h : OwnE B base w v es) (x : Evt) (av : Value) (hx : CReads B w av x.at_.length (atC x.at_)) (hbb : B ≤ base) (hbase : base ≤ w.heap.size) (hn : es.length < 1000000) :
    ∃ v' w', (Builtin.append_ #[22, 22] 22 #[v, .slice (some ⟨w.heap.size, 0, none⟩) 1 1]).run Try.prog (w.alloc (.cells #[.int .i8 x.k, .string x.n.1, .string x.n.2, av, .string x.tx] 30)) = .ok v' w' ∧ OwnE B base w' v' (es ++ [x]) ∧ Below base w w' := by
  obtain ⟨avs, h1, h2⟩ := h
  obtain ⟨i0, hi, hz0, hz1, hz2⟩ := info_parts infoEvt
  have hal := h2.len
  have hav : av.oneCell' = true := by
    obtain ⟨a, c, rfl, -⟩ := id hx
    rfl
  obtain ⟨v', w', hrun, k1, k2, _⟩ := run_append_own (P := Try.prog) (w.alloc (.cells #[.int .i8 x.k, .string x.n.1, .string x.n.2, av, .string x.tx] 30)) base 22 22 30 i0 _ 5 80 Try.underlying22 hi hz0 hz1 hz2 rfl (by decide) v es.length _ (h1.alloc _) ⟨w.heap.size, 0, none⟩ 1 1 (evC x av) rfl
    (fun j u hj => by
      rw [addr0, World.cell?_alloc_mark]
      simpa [evC] using hj)
    (evC_one hav) (by unfold maxLen; omega) (by omega) (by simp; omega)
  have hb := ((Below.refl base w).alloc hbase (.cells #[.int .i8 x.k, .string x.n.1, .string x.n.2, av, .string x.tx] 30)).trans (ownBelow (h1.alloc _) k2 (Nat.le_refl _) (by simp; omega))
  refine ⟨v', w', hrun, ⟨avs ++ [av], ?_, (h2.below hb hbb).snoc (hx.below hb hbb)⟩, hb⟩
  rw [evsC_snoc es avs x av hal, List.length_append]
  exact k1
/-- a row that is written out. -/
theorem OwnE.lit {B base : Nat} {w : World} {es : List Evt} (avs : List Value) (C : Array Value) (hC : C.toList = evsC es avs) (ha : AtsR B (w.alloc (.cells C 30)) es avs) (hb : base ≤ w.heap.size) (n : Nat) (hn : es.length = n) (hm : n ≤ 1000000) :
    OwnE B base (w.alloc (.cells C 30)) (.slice (some ⟨w.heap.size, 0, none⟩) n n) es := by
  have hl := evsC_len es avs ha.len
  subst hn
  refine ⟨avs, ⟨hl, .inr ⟨w.heap.size, es.length, C, rfl, hb, heap_alloc_new w _, Nat.le_refl _, by unfold maxLen; omega, ?_, ?_⟩⟩, ha⟩
  · rw [← Array.length_toList, hC, hl]
  · rw [hC, List.take_of_length_le (by omega)]
theorem evsC_set_tx : ∀ (es : List Evt) (avs : List Value) (e : Evt) (a : Value) (t : ByteArray), avs.length = es.length → (evsC (es ++ [e]) (avs ++ [a])).set (es.length * 5 + 4) (.string t) = evsC (es ++ [{ e with tx := t }]) (avs ++ [a])
  | [], [], e, a, t, _ => by simp [evsC, evC]
  | x :: es, y :: as_, e, a, t, h => by
    have ih := evsC_set_tx es as_ e a t (by simpa using h)
    rw [List.cons_append, List.cons_append, evsC, List.cons_append, evsC, List.set_append_right (h := by show 5 ≤ _; rw [List.length_cons]; omega)]
    rw [show (x :: es).length * 5 + 4 - (evC x y).length = es.length * 5 + 4 by rw [List.length_cons]; show (es.length + 1) * 5 + 4 - 5 = _; omega, ih]
theorem AtsR.retx {B : Nat} {w : World} : ∀ (es : List Evt) {e : Evt} {avs : List Value} (t : ByteArray), AtsR B w (es ++ [e]) avs → AtsR B w (es ++ [{ e with tx := t }]) avs
  | [], _, [], _, h => h.elim
  | [], _, _ :: [], _, h => h
  | [], _, _ :: _ :: _, _, h => h.2.elim
  | _ :: _, _, [], _, h => h.elim
  | _ :: es, _, _ :: _, t, h => ⟨h.1, AtsR.retx es t h.2⟩
set_option maxRecDepth 100000 in
set_option maxHeartbeats 8000000 in
theorem ref16_Put (B : Nat) (es : List Evt) (v : Value) (x : Evt) (av : Value) (w : World) (hr : EvsR B w v es) (hB : B ≤ w.heap.size) (hx : CReads B w av x.at_.length (atC x.at_)) (hcap : CapR v es.length) (hn : es.length < 1000000)
    (hz : ∀ e ∈ es, e.tx.size ≤ 1152921504606846976) (hxz : x.tx.size ≤ 1152921504606846976) :
    Calls Try.prog 29 #[v, evV x av] w fun r w' => PutS w w' (putP es x) r := by
  obtain ⟨a, cap, rfl, hc1, hc2⟩ := hcap
  obtain ⟨k, ⟨n1, n2⟩, ats, tx⟩ := x
  obtain ⟨aa, ac, rfl, -⟩ := id hx
  simp only at hx hxz
  have bX := BlkAt.new w #[.int .i8 k, .string n1, .string n2, .slice aa ats.length ac, .string tx] 30
  have hb1 := (Below.refl w.heap.size w).alloc (Nat.le_refl _) (.cells #[.int .i8 k, .string n1, .string n2, .slice aa ats.length ac, .string tx] 30)
  unfold evV
  simp only
  have hs1 : (w.alloc (.cells #[.int .i8 k, .string n1, .string n2, .slice aa ats.length ac, .string tx] 30)).heap.size = w.heap.size + 1 := World.size_alloc _ _
  obtain ⟨w1, hw1⟩ : ∃ y, w.alloc (.cells #[.int .i8 k, .string n1, .string n2, .slice aa ats.length ac, .string tx] 30) = y := ⟨_, rfl⟩
  rw [hw1] at bX hb1 hs1
  have e0 : _ = some (Value.int .i8 k) := bX.cell 0 rfl
  have e4 : _ = some (Value.string tx) := bX.cell 4 rfl
  have hB1 : B ≤ w1.heap.size := Nat.le_trans hB hb1.size
  obtain ⟨v2, w2, hrun, hO, hb2⟩ := (OwnE.nil B w1.heap.size w1).apps (hr.below hb1 hB) hB1 (Nat.le_refl _) (by simp; omega)
  rw [List.nil_append] at hO
  have HR := Lib.hid hrun
  have bX2 := bX.below hb2 bX.lt
  have hbw2 := hb1.trans (hb2.mono hb1.size)
  clear hrun
  by_cases hsk : k = 2 ∧ emB tx = true
  · obtain ⟨rfl, hem⟩ := hsk
    have q0 : (tx.toList == []) = true := by rw [emB_eq]; exact hem
    have hp : putP es ⟨2, (n1, n2), ats, tx⟩ = es := by unfold putP; rw [if_pos rfl, if_pos hem]
    have hO2 : PutS w w1 (putP es ⟨2, (n1, n2), ats, tx⟩) (.returned (.slice a es.length cap)) := by
      rw [hp]
      exact ⟨_, rfl, (hr.below hb1 hB).mono hB1, ⟨a, cap, rfl, by omega, hc2⟩, hb1⟩
    have HO2 := Lib.hid hO2
    clear hp hO2 hO HR hr hx hz hem hs1
    go_enter Try.func29, Try.ntmps29
    go_wp2_with fail
    go_ret
    exact HO2.out
  · obtain ⟨va, vl, vc, hv2⟩ : ∃ a l c, v2 = .slice a l c := by
      obtain ⟨avs, h1, -⟩ := hO
      exact own_slice h1
    have hvl : vl = es.length ∧ vl ≤ vc := by
      obtain ⟨a', c', h5, h6, -⟩ := hO.cap
      rw [hv2] at h5
      injection h5 with h7 h8 h9
      omega
    subst hv2
    obtain ⟨nn, hnn⟩ : ∃ n, es.length = n := ⟨_, rfl⟩
    have HNN := Lib.hid hnn
    rw [hnn] at hc1 hn hvl HR
    obtain ⟨hvl1, hvc⟩ := hvl
    subst hvl1
    have e0b : w2.cell? ⟨w.heap.size, 0, none⟩ = some (Value.int .i8 k) := bX2.cell 0 rfl
    have e1b : w2.cell? ⟨w.heap.size, 1, none⟩ = some (Value.string n1) := bX2.cell 1 rfl
    have e2b : w2.cell? ⟨w.heap.size, 2, none⟩ = some (Value.string n2) := bX2.cell 2 rfl
    have e3b : w2.cell? ⟨w.heap.size, 3, none⟩ = some (Value.slice aa ats.length ac) := bX2.cell 3 rfl
    have e4b : w2.cell? ⟨w.heap.size, 4, none⟩ = some (Value.string tx) := bX2.cell 4 rfl
    -- the last arm: one more is put behind
    obtain ⟨v3, w3, hrun3, hO3, hb3⟩ := hO.app1 ⟨k, (n1, n2), ats, tx⟩ (.slice aa ats.length ac) (hx.below hbw2 hB) hB1 hb2.size (by omega)
    have HR3 := Lib.hid hrun3
    have HPUT : putP es ⟨k, (n1, n2), ats, tx⟩ = es ++ [⟨k, (n1, n2), ats, tx⟩] → Hid (PutS w w3 (putP es ⟨k, (n1, n2), ats, tx⟩) (.returned v3)) := fun h => Lib.hid (by
      have hbw3 := hbw2.trans (hb3.mono hb1.size)
      rw [h]
      exact ⟨v3, rfl, hO3.reads (Nat.le_trans hB hbw3.size), hO3.cap, hbw3⟩)
    have HP := Lib.hid HPUT
    clear HPUT hrun3
    by_cases hk : k = 2
    · subst hk
      have hem : emB tx = false := by
        cases h : emB tx with
        | false => rfl
        | true => exact absurd ⟨rfl, h⟩ hsk
      have q0 : (tx.toList == []) = false := by rw [emB_eq]; exact hem
      rcases Nat.eq_zero_or_pos vl with h0 | h0
      · have hes : es = [] := List.eq_nil_of_length_eq_zero (by omega)
        have HO2 := HP.out (by unfold putP; rw [if_pos rfl, if_neg (by rw [hem]; decide), hes]; rfl)
        subst h0
        clear hr hx hz hem hes hO hO3 HP hsk bX2 hs1
        rw [hnn]
        go_enter Try.func29, Try.ntmps29
        go_wp2_with first
          | (at_builtin; refine wpList_append_run rfl _ _ _ _ rfl _ _ rfl rfl _ _ HR.out ?_; clear HR)
          | (at_builtin; refine wpList_append_run rfl _ _ _ _ rfl _ _ rfl rfl _ _ HR3.out ?_; clear HR3)
        go_ret
        exact HO2.out
      · obtain ⟨e, he⟩ : ∃ e, es[vl - 1]? = some e := ⟨_, List.getElem?_eq_getElem (by omega)⟩
        have hgl : es.getLast? = some e := by rw [List.getLast?_eq_getElem?, hnn]; exact he
        obtain ⟨g, hva, hcg⟩ : ∃ g, va = some ⟨g, 0, none⟩ ∧ ∃ avs, w2.ownsRow w1.heap.size 30 5 (.slice (some ⟨g, 0, none⟩) vl vc) vl (evsC es avs) ∧ AtsR B w2 es avs := by
          obtain ⟨avs, h1, h2⟩ := hO
          rcases h1.2 with ⟨h3, h4⟩ | ⟨g, cap', cur, h3, -⟩
          · omega
          · injection h3 with h4 h5 h6
            subst h4
            exact ⟨g, rfl, avs, by rw [hnn] at h1; exact h1, h2⟩
        subst hva
        obtain ⟨b, off, cap', av, hv, hbB, c0, c1, c2, c3, c4, hav⟩ := (hO.reads (Nat.le_trans hB1 hb2.size)).get (Below.refl _ w2) (Nat.le_refl _) (vl - 1) e he
        rw [hnn] at hv
        cases hv
        rw [Nat.zero_add] at c0 c1 c2 c3 c4
        have hq2 : ((vl : Int) - 1) = ((vl - 1 : Nat) : Int) := by omega
        have hq3 : vl - 1 < vl := by omega
        have hq7 : IntKind.i64.wrap ((vl - 1 : Nat) : Int) = ((vl - 1 : Nat) : Int) := by rw [IntKind.wrap_i64]; omega
        have hd0 := decide_eq_true (show (0 : Int) < (vl : Int) by omega)
        by_cases hek : e.k = 2
        · obtain ⟨ek, ⟨en1, en2⟩, eat, etx⟩ := e
          simp only at hek c0 c1 c2 c3 c4 hav
          subst hek
          have htz := hz _ (List.mem_of_getElem? he)
          simp only at htz
          have hq5 : ¬ (9223372036854775807 : Nat) < etx.size + tx.size := by omega
          obtain ⟨avs, hrow, hats⟩ := hcg
          have hfz := hrow.frozenAt ((vl - 1) * 5 + 4)
          have hp : putP es ⟨2, (n1, n2), ats, tx⟩ = es.dropLast ++ [⟨2, (en1, en2), eat, etx ++ tx⟩] := by unfold putP; rw [if_pos rfl, if_neg (by rw [hem]; decide), hgl]; exact if_pos rfl
          have hfin : PutS w (w2.drew.setCell ⟨g, (vl - 1) * 5 + 4, none⟩ (.string (etx ++ tx))) (putP es ⟨2, (n1, n2), ats, tx⟩) (.returned (.slice (some ⟨g, 0, none⟩) vl vc)) := by
            obtain ⟨ini, hini⟩ := List.getLast?_eq_some_iff.1 hgl
            have hil : ini.length = vl - 1 := by rw [← hnn, hini]; simp
            have hal := hats.len
            have hane : avs ≠ [] := by intro e; rw [e] at hal; simp at hal; omega
            obtain ⟨aini, a0, rfl⟩ : ∃ aini a0, avs = aini ++ [a0] := ⟨avs.dropLast, avs.getLast hane, (List.dropLast_concat_getLast hane).symm⟩
            have hail : aini.length = ini.length := by
              rw [hini] at hal
              simpa using hal
            have hbd : Below w1.heap.size w2 w2.drew := (Below.refl _ w2).drew
            have hrd := own_below hrow ((Below.refl w2.heap.size w2).drew) (Nat.le_refl _)
            have hg1 : w1.heap.size ≤ g := (hrow.lt g rfl).1
            obtain ⟨k1, k2⟩ := hrd.stored ((vl - 1) * 5 + 4) (.string (etx ++ tx))
            have hbs : Below w1.heap.size w2 (w2.drew.setCell ⟨g, (vl - 1) * 5 + 4, none⟩ (.string (etx ++ tx))) := hbd.setCell (p := ⟨g, (vl - 1) * 5 + 4, none⟩) hg1 _
            have hO' : OwnE B w1.heap.size (w2.drew.setCell ⟨g, (vl - 1) * 5 + 4, none⟩ (.string (etx ++ tx))) (.slice (some ⟨g, 0, none⟩) vl vc) (ini ++ [⟨2, (en1, en2), eat, etx ++ tx⟩]) := by
              refine ⟨aini ++ [a0], ?_, ?_⟩
              · rw [hini, ← hil, evsC_set_tx ini aini _ a0 _ hail] at k1
                rw [List.length_append, show ini.length + [(⟨2, (en1, en2), eat, etx ++ tx⟩ : Evt)].length = vl by rw [hil]; simp; omega]
                rw [← hil]
                exact k1
              · rw [hini] at hats
                exact (hats.retx ini (etx ++ tx)).below hbs hB1
            have hdl : es.dropLast = ini := by rw [hini]; simp
            have hlen := hO'.cap
            have hbw' := hb1.trans (hbs.mono hb1.size |> fun h => ((hb2.mono (Nat.le_refl _)).mono hb1.size).trans h)
            rw [hp, hdl]
            exact ⟨_, rfl, hO'.reads (Nat.le_trans hB hbw'.size), hlen, hbw'⟩
          have HF := Lib.hid hfin
          clear hp hfin hrow hats
          clear hr hx hz hem hO hO3 HP hsk bX2 hs1 HR3 hav
          rw [hnn]
          go_enter Try.func29, Try.ntmps29
          go_wp2_with (at_builtin; refine wpList_append_run rfl _ _ _ _ rfl _ _ rfl rfl _ _ HR.out ?_; clear HR)
          have r4 : World.cell? { heap := w2.heap, tape := w2.tape, drawn := w2.drawn + 1, os := w2.os, output := w2.output } ⟨g, (vl - 1) * 5 + 4, none⟩ = some (.string etx) := c4
          have s4 : World.cell? { heap := w2.heap, tape := w2.tape, drawn := w2.drawn + 1, os := w2.os, output := w2.output } ⟨w.heap.size, 4, none⟩ = some (.string tx) := e4b
          have z4 : World.frozen? { heap := w2.heap, tape := w2.tape, drawn := w2.drawn + 1, os := w2.os, output := w2.output } ⟨g, (vl - 1) * 5 + 4, none⟩ = false := hfz
          go_still_tail 14, (by kernel_rfl)
          go_wp2_with fail
          go_ret
          exact HF.out
        · have q1 : (e.k == 2) = false := by simpa using hek
          have HO2 := HP.out (by unfold putP; rw [if_pos rfl, if_neg (by rw [hem]; decide), hgl]; exact if_neg hek)
          clear hr hx hz hem hO hO3 HP hsk bX2 hs1 hcg hav
          rw [hnn]
          go_enter Try.func29, Try.ntmps29
          go_wp2_with first
            | (at_builtin; refine wpList_append_run rfl _ _ _ _ rfl _ _ rfl rfl _ _ HR.out ?_; clear HR)
            | (at_builtin; refine wpList_append_run rfl _ _ _ _ rfl _ _ rfl rfl _ _ HR3.out ?_; clear HR3)
          go_ret
          exact HO2.out
    · have q0 : (k == 2) = false := by simpa using hk
      have HO2 := HP.out (by unfold putP; rw [if_neg hk])
      clear hr hx hz hO hO3 HP hsk bX2 hs1
      rw [hnn]
      go_enter Try.func29, Try.ntmps29
      go_wp2_with first
        | (at_builtin; refine wpList_append_run rfl _ _ _ _ rfl _ _ rfl rfl _ _ HR.out ?_; clear HR)
        | (at_builtin; refine wpList_append_run rfl _ _ _ _ rfl _ _ rfl rfl _ _ HR3.out ?_; clear HR3)
      go_ret
      exact HO2.out
end Go.Proofs.Yteefopeclfojiaa
