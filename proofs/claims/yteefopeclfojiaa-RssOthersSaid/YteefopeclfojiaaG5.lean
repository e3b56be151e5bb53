/-
  Parts EvU EvW EvY EvZ EvM of this seat's texts, in one file: contracts of functions that the law reaches, and the plain laws behind them. No condition.
-/
import Derived.Test.YteefopeclfojiaaG3
import Derived.ArgAppend
import Derived.IntWalk
import Derived.Deep.RegionLaw
import Derived.Test.YteefopeclfojiaaG2
import Derived.Deep.QuietTactic
import Derived.Test.YteefopeclfojiaaG1
/- 
  Layer 16: the walk of events.Put.
 -/
namespace Go.Proofs.Yteefopeclfojiaa
open Go.RowKit
/-- a slice's capacity holds its length. -/
def CapR (v : Value) (n : Nat) : Prop := ∃ a cap, v = .slice a n cap ∧ n ≤ cap ∧ cap ≤ maxLen
/-- an event put behind. -/
def putP (es : List Evt) (x : Evt) : List Evt :=
  if x.k = 2 then (if emB x.tx then es else match es.getLast? with
    | none => es ++ [x]
    | some e => if e.k = 2 then es.dropLast ++ [{ e with tx := e.tx ++ x.tx }] else es ++ [x])
  else es ++ [x]
theorem evsC_snoc : ∀ (es : List Evt) (avs : List Value) (x : Evt) (av : Value), avs.length = es.length → evsC (es ++ [x]) (avs ++ [av]) = evsC es avs ++ evC x av
  | [], [], x, av, _ => by simp [evsC]
  | e :: es, a :: as_, x, av, h => by
    rw [List.cons_append, List.cons_append, evsC, evsC, evsC_snoc es as_ x av (by simpa using h), List.append_assoc]
theorem evsC_len : ∀ (es : List Evt) (avs : List Value), avs.length = es.length → (evsC es avs).length = es.length * 5
  | [], [], _ => rfl
  | e :: es, a :: as_, h => by
    rw [evsC, List.length_append, evsC_len es as_ (by simpa using h), List.length_cons]
    show 5 + _ = _
    omega
theorem AtsR.snoc {B : Nat} {w : World} : ∀ {es : List Evt} {avs : List Value} {x : Evt} {av : Value}, AtsR B w es avs → CReads B w av x.at_.length (atC x.at_) → AtsR B w (es ++ [x]) (avs ++ [av])
  | [], [], _, _, _, h => ⟨h, trivial⟩
  | _ :: _, _ :: _, _, _, h, h2 => ⟨h.1, AtsR.snoc h.2 h2⟩
theorem evC_one {x : Evt} {av : Value} (h : av.oneCell' = true) : ∀ u ∈ evC x av, u.oneCell' = true := by
  intro u hu
  unfold evC at hu
  simp only [List.mem_cons, List.not_mem_nil, or_false] at hu
  rcases hu with rfl | rfl | rfl | rfl | rfl <;> first | rfl | exact h
theorem infoEvt : (Try.prog.info? 30).map (fun i => (i.zero, i.size, i.bytes)) = some (some (.agg #[.int .i8 0, .string ⟨#[]⟩, .string ⟨#[]⟩, .slice none 0 0, .string ⟨#[]⟩]), 5, 80) := by kernel_rfl
set_option maxRecDepth 100000 in
/-- 'append(l[:n:n], x)'. -/
theorem app_evt (B : Nat) (wr : World) (a : Option Addr) (es : List Evt) (x : Evt) (av : Value) (hr : EvsR B wr (.slice a es.length es.length) es) (hB : B ≤ wr.heap.size) (hx : CReads B wr av x.at_.length (atC x.at_)) (hn : es.length < 1000000) (hz : a = none → es = []) :
    ∃ v' w', (Builtin.append_ #[22, 22] 22 #[.slice a es.length es.length, .slice (some ⟨wr.heap.size, 0, none⟩) 1 1]).run Try.prog (wr.alloc (.cells #[.int .i8 x.k, .string x.n.1, .string x.n.2, av, .string x.tx] 30)) = .ok v' w' ∧
      EvsR w'.heap.size w' v' (es ++ [x]) ∧ CapR v' (es ++ [x]).length ∧ Below wr.heap.size wr w' := by
  obtain ⟨i0, hi, hz0, hz1, hz2⟩ := info_parts infoEvt
  obtain ⟨w1, hw1⟩ : ∃ a, wr.alloc (.cells #[.int .i8 x.k, .string x.n.1, .string x.n.2, av, .string x.tx] 30) = a := ⟨_, rfl⟩
  have hb1 : Below wr.heap.size wr w1 := by rw [← hw1]; exact (Below.refl _ wr).alloc (Nat.le_refl _) _
  have hs1 : w1.heap.size = wr.heap.size + 1 := by rw [← hw1, World.size_alloc]
  have hnews : ∀ j u, (evC x av)[j]? = some u → w1.cell? ((⟨wr.heap.size, 0, none⟩ : Addr).add j) = some u := fun j u hj => by
    rw [← hw1, addr0, World.cell?_alloc_mark]
    simpa [evC] using hj
  have hav : av.oneCell' = true := by
    obtain ⟨a, c, rfl, -⟩ := hx
    rfl
  have hr1 := hr.below hb1 hB
  obtain ⟨avs, ⟨a', cap', hv, hc⟩, hats⟩ := hr1
  have hal := hats.len
  have fin : ∀ (base : Nat) (v' : Value) (w' : World), w'.ownsRow base 30 5 v' (es.length + 1) (evsC es avs ++ evC x av) → Below w1.heap.size w1 w' →
      EvsR w'.heap.size w' v' (es ++ [x]) ∧ CapR v' (es ++ [x]).length ∧ Below wr.heap.size wr w' := fun base v' w' ho hb => by
    have hbb := hb1.trans (hb.mono hb1.size)
    have hBw : B ≤ w'.heap.size := Nat.le_trans hB hbb.size
    refine ⟨⟨avs ++ [av], ?_, ?_⟩, ?_, hbb⟩
    · rw [evsC_snoc es avs x av hal, List.length_append]
      exact CReads.of_own ho
    · exact AtsR.snoc ((hats.below hb (by omega)).mono hBw) ((hx.below hbb hB).mono hBw)
    · rw [List.length_append]
      rcases ho.2 with ⟨rfl, h0⟩ | ⟨g, cap, cur, rfl, _, _, h2, h3, _⟩
      · omega
      · exact ⟨_, cap, rfl, h2, h3⟩
  rw [hw1]
  cases a with
  | none =>
    have he := hz rfl
    subst he
    obtain ⟨v', w', hrun, h2, h3, _⟩ := run_append_own (P := Try.prog) w1 w1.heap.size 22 22 30 i0 _ 5 80 Try.underlying22 hi hz0 hz1 hz2 rfl (by decide) (.slice none 0 0) 0 [] (World.ownsRow_nil _ _ _ _) ⟨wr.heap.size, 0, none⟩ 1 1 (evC x av) rfl
      hnews (evC_one hav) (by unfold maxLen; omega) (by omega) (Nat.le_refl _)
    have hn0 : avs = [] := List.eq_nil_of_length_eq_zero hal
    subst hn0
    exact ⟨v', w', hrun, fin w1.heap.size v' w' (by simpa [evsC] using h2) (ownBelow (World.ownsRow_nil w1 w1.heap.size 30 5) h3 (Nat.le_refl _) (Nat.le_refl _))⟩
  | some ad =>
    obtain ⟨v', w', hrun, h2, h3⟩ := run_append_arg_grows (P := Try.prog) (w := w1) 22 22 30 i0 _ 5 80 Try.underlying22 hi hz0 hz1 hz2 rfl (by decide) ad es.length es.length (evsC es avs) (evsC_len es avs hal)
      (fun j u hj => by
        obtain ⟨b, off, hbb, _, hcc⟩ := hc j u hj
        injection hv with e1
        rw [← e1] at hbb
        injection hbb with hbb
        subst hbb
        rw [show (⟨b, off, none⟩ : Addr).add j = ⟨b, off + j, none⟩ by unfold Addr.add; split <;> simp_all]
        exact hcc)
      ⟨wr.heap.size, 0, none⟩ 1 1 (evC x av) rfl hnews (by omega) (by unfold maxLen; omega) (by omega)
    exact ⟨v', w', hrun, fin _ v' w' h2 ⟨h3.os, h3.tape, h3.output, h3.size, fun k hk => h3.block k hk (by simp)⟩⟩
/-- an append whose run is known, as a step of a region that draws. -/
theorem step_app_run {P : Program} {ops : Array Oper} {o : Oper} {a : Act} {w : World} {K : Act → World → Prop} {Q : Exit → Act → World → Prop} {E : Prop}
    (hg : o.guard = none) (s x : Operand) (t tx : TypeId) (hop : o.op = Op.call { callee := Callee.builtin Builtin.append, args := #[s, x], argTypes := #[t, tx] })
    (v xv : Value) (hs : a.eval s = v) (hx : a.eval x = xv) (v' : Value) (w' : World) (hr : (Builtin.append_ #[t, tx] o.type #[v, xv]).run P w = .ok v' w') (hK : K (a.put o.dst v') w') :
    if Region.wanted o (yielded ops a.tmps) = true then Oper.wp P o a w K Q else E := by
  have hw : Region.wanted o (yielded ops a.tmps) = true := by simp [Region.wanted, hg]
  rw [if_pos hw]
  unfold Oper.wp
  simp [execOp, hop, resolve, invoke, builtin, hs, hx, hr, Result.andThen]
  exact hK
/-- what Put comes to. -/
def PutS (w w' : World) (l : List Evt) (r : Ending) : Prop := ∃ v', r = .returned v' ∧ EvsR w'.heap.size w' v' l ∧ CapR v' l.length ∧ Below w.heap.size w w'
set_option maxRecDepth 100000 in
set_option maxHeartbeats 8000000 in
theorem events_Put (B : Nat) (es : List Evt) (v : Value) (x : Evt) (av : Value) (w : World) (hr : EvsR B w v es) (hB : B ≤ w.heap.size) (hx : CReads B w av x.at_.length (atC x.at_)) (hcap : CapR v es.length) (hn : es.length < 1000000)
    (hz : ∀ e ∈ es, e.tx.size ≤ 1152921504606846976) (hxz : x.tx.size ≤ 1152921504606846976) :
    Calls Try.prog 28 #[v, evV x av] w fun r w' => PutS w w' (putP es x) r := by
  obtain ⟨a, cap, rfl, hc1, hc2⟩ := hcap
  obtain ⟨k, ⟨n1, n2⟩, ats, tx⟩ := x
  obtain ⟨aa, ac, rfl, -⟩ := id hx
  simp only at hx hxz
  have hra : a = none → es = [] := fun h => by
    subst h
    cases es with
    | nil => rfl
    | cons e r =>
      obtain ⟨b, off, c, av', h1, _⟩ := hr.get (Below.refl B w) (Nat.le_refl _) 0 e rfl
      cases h1
  have bX := BlkAt.new w #[.int .i8 k, .string n1, .string n2, .slice aa ats.length ac, .string tx] 30
  have hb1 := (Below.refl w.heap.size w).alloc (Nat.le_refl _) (.cells #[.int .i8 k, .string n1, .string n2, .slice aa ats.length ac, .string tx] 30)
  have hcut : EvsR B w (.slice a es.length es.length) es := by
    obtain ⟨avs, ⟨a', cap', hv, hc⟩, ha⟩ := hr
    injection hv with e1
    subst e1
    exact ⟨avs, ⟨a, es.length, rfl, hc⟩, ha⟩
  unfold evV
  simp only
  obtain ⟨w1, hw1⟩ : ∃ y, w.alloc (.cells #[.int .i8 k, .string n1, .string n2, .slice aa ats.length ac, .string tx] 30) = y := ⟨_, rfl⟩
  rw [hw1] at bX hb1
  have hb1d : Below w.heap.size w w1.drew := hb1.drew
  obtain ⟨v', w', hrun, h1, h2, h3⟩ := app_evt B w1.drew a es ⟨k, (n1, n2), ats, tx⟩ (.slice aa ats.length ac) (hcut.below hb1d hB) (Nat.le_trans hB hb1d.size) (hx.below hb1d hB) hn hra
  have hOut : putP es ⟨k, (n1, n2), ats, tx⟩ = es ++ [⟨k, (n1, n2), ats, tx⟩] → PutS w w' (putP es ⟨k, (n1, n2), ats, tx⟩) (.returned v') := fun h => by
    rw [h]
    exact ⟨v', rfl, h1, h2, hb1d.trans (h3.mono hb1d.size)⟩
  obtain ⟨nn, hnn⟩ : ∃ n, es.length = n := ⟨_, rfl⟩
  rw [hnn] at hc1 hn hrun
  have HR := Lib.hid hrun
  have HO := Lib.hid hOut
  have e0 : _ = some (Value.int .i8 k) := bX.cell 0 rfl
  have e1 : _ = some (Value.string n1) := bX.cell 1 rfl
  have e2 : _ = some (Value.string n2) := bX.cell 2 rfl
  have e3 : _ = some (Value.slice aa ats.length ac) := bX.cell 3 rfl
  have e4 : _ = some (Value.string tx) := bX.cell 4 rfl
  clear hrun hOut h1 h2 h3 hcut
  by_cases hk : k = 2
  · subst hk
    cases hem : emB tx with
    | true =>
      have q0 : (tx.toList == []) = true := by rw [emB_eq]; exact hem
      have hp : putP es ⟨2, (n1, n2), ats, tx⟩ = es := by unfold putP; rw [if_pos rfl, if_pos hem]
      have hO : PutS w w1 (putP es ⟨2, (n1, n2), ats, tx⟩) (.returned (.slice a es.length cap)) := by
        rw [hp]
        exact ⟨_, rfl, (hr.below hb1 hB).mono (Nat.le_trans hB hb1.size), ⟨a, cap, rfl, by omega, hc2⟩, hb1⟩
      rw [hnn] at hO ⊢
      have HO2 := Lib.hid hO
      clear hp hO HO HR hr hx hra hz hb1d hem
      go_enter Try.func28, Try.ntmps28
      go_wp2_with fail
      go_ret
      exact HO2.out
    | false =>
      have q0 : (tx.toList == []) = false := by rw [emB_eq]; exact hem
      rcases Nat.eq_zero_or_pos nn with h0 | h0
      · have hes : es = [] := List.eq_nil_of_length_eq_zero (by omega)
        have hp : putP es ⟨2, (n1, n2), ats, tx⟩ = es ++ [⟨2, (n1, n2), ats, tx⟩] := by unfold putP; rw [if_pos rfl, if_neg (by rw [hem]; decide), hes]; rfl
        have HO2 := Lib.hid (HO.out hp)
        clear hp HO hr hx hra hz hb1d hem hes
        subst h0
        rw [hnn]
        go_enter Try.func28, Try.ntmps28
        go_wp2_with fail
        clear hw1
        go_region_law (refine step_app_run rfl (.tmp 53) (.tmp 55) 22 22 rfl _ _ (by simp [Act.eval]) (by simp [Act.eval]) _ _ HR.out ?_)
        go_wp2_with fail
        go_ret
        exact HO2.out
      · obtain ⟨e, he⟩ : ∃ e, es[nn - 1]? = some e := ⟨_, List.getElem?_eq_getElem (by omega)⟩
        have hgl : es.getLast? = some e := by rw [List.getLast?_eq_getElem?, hnn]; exact he
        obtain ⟨b, off, cap', av, hv, hbB, c0, c1, c2, c3, c4, hav⟩ := hr.get hb1 hB (nn - 1) e he
        injection hv with ea eb ec
        subst ea
        clear eb ec
        by_cases hek : e.k = 2
        · have q1 : (e.k == 2) = true := by simpa using hek
          obtain ⟨ek, ⟨en1, en2⟩, eat, etx⟩ := e
          simp only at hek c0 c1 c2 c3 c4 hav q1
          subst hek
          obtain ⟨ea, ec, rfl, -⟩ := id hav
          have htz := hz _ (List.mem_of_getElem? he)
          simp only at htz
          have htk : (es.take (nn - 1)).length = nn - 1 := by rw [List.length_take]; omega
          have hp : putP es ⟨2, (n1, n2), ats, tx⟩ = es.take (nn - 1) ++ [⟨2, (en1, en2), eat, etx ++ tx⟩] := by
            unfold putP
            rw [if_pos rfl, if_neg (by rw [hem]; decide), hgl, List.dropLast_eq_take, hnn]
            exact if_pos rfl
          have bL := BlkAt.new w1 #[.int .i8 2, .string en1, .string en2, .slice ea eat.length ec, .string etx] 30
          have hbL := (Below.refl w1.heap.size w1).alloc (Nat.le_refl _) (.cells #[.int .i8 2, .string en1, .string en2, .slice ea eat.length ec, .string etx] 30)
          have g4 := bL.free 4
          have d4 : _ = some (Value.string etx) := bL.cell 4 rfl
          have k4 : _ = some (Value.string tx) := (bX.alloc (.cells #[.int .i8 2, .string en1, .string en2, .slice ea eat.length ec, .string etx] 30)).cell 4 rfl
          have bM := bL.set 4 (.string (etx ++ tx))
          have hbM := hbL.setCell (p := ⟨w1.heap.size, 4, none⟩) (Nat.le_refl _) (.string (etx ++ tx))
          obtain ⟨w3, hw3⟩ : ∃ y, (w1.alloc (.cells #[.int .i8 2, .string en1, .string en2, .slice ea eat.length ec, .string etx] 30)).setCell ⟨w1.heap.size, 4, none⟩ (.string (etx ++ tx)) = y := ⟨_, rfl⟩
          rw [hw3] at bM hbM
          have f0 : w3.cell? ⟨w1.heap.size, 0, none⟩ = some (Value.int .i8 2) := bM.cell 0 rfl
          have f1 : w3.cell? ⟨w1.heap.size, 1, none⟩ = some (Value.string en1) := bM.cell 1 rfl
          have f2 : w3.cell? ⟨w1.heap.size, 2, none⟩ = some (Value.string en2) := bM.cell 2 rfl
          have f3 : w3.cell? ⟨w1.heap.size, 3, none⟩ = some (Value.slice ea eat.length ec) := bM.cell 3 rfl
          have f4 : w3.cell? ⟨w1.heap.size, 4, none⟩ = some (Value.string (etx ++ tx)) := bM.cell 4 rfl
          have hb3 : Below w.heap.size w w3.drew := (hb1.trans (hbM.mono hb1.size)).drew
          have hcut : EvsR B w (.slice (some ⟨b, off, none⟩) (es.take (nn - 1)).length (es.take (nn - 1)).length) (es.take (nn - 1)) := by
            have h1 := hr.sub 0 (nn - 1) (nn - 1) (by omega)
            rw [htk]
            simpa using h1
          obtain ⟨v3, w4, hrun3, h1, h2, h3⟩ := app_evt B w3.drew (some ⟨b, off, none⟩) (es.take (nn - 1)) ⟨2, (en1, en2), eat, etx ++ tx⟩ (.slice ea eat.length ec) (hcut.below hb3 hB) (Nat.le_trans hB hb3.size) (hav.below (hbM.drew.mono hb1.size) hB) (by omega) (fun h => by cases h)
          have hO : PutS w w4 (putP es ⟨2, (n1, n2), ats, tx⟩) (.returned v3) := by
            rw [hp]
            exact ⟨v3, rfl, h1, h2, hb3.trans (h3.mono hb3.size)⟩
          rw [htk] at hrun3
          have HR3 := Lib.hid hrun3
          have HO2 := Lib.hid hO
          have hq1 : ¬ (9223372036854775807 : Nat) < etx.size + tx.size := by omega
          have hq2 : ((nn : Int) - 1) = ((nn - 1 : Nat) : Int) := by omega
          have hq3 : nn - 1 ≤ cap := by omega
          have hq5 : nn ≤ cap + 1 := by omega
          have hq7 : IntKind.i64.wrap ((nn - 1 : Nat) : Int) = ((nn - 1 : Nat) : Int) := by rw [IntKind.wrap_i64]; omega
          have hq8 : max ((nn - 1 : Nat) : Int) 0 = ((nn - 1 : Nat) : Int) := by omega
          have hq6 : ((nn - 1 : Nat) : Int) ≤ (cap : Int) := by omega
          clear hp HO HR hO hrun3 h1 h2 h3 hr hx hra hz hb1d hem hgl he hav bM hcut
          rw [hnn]
          go_enter Try.func28, Try.ntmps28
          go_wp2_with fail
          clear hw3 hw1
          go_region_law (refine step_app_run rfl (.tmp 46) (.tmp 48) 22 22 rfl _ _ (by simp [Act.eval]) (by simp [Act.eval]) _ _ HR3.out ?_)
          go_wp2_with fail
          go_ret
          exact HO2.out
        · have q1 : (e.k == 2) = false := by simpa using hek
          have hp : putP es ⟨2, (n1, n2), ats, tx⟩ = es ++ [⟨2, (n1, n2), ats, tx⟩] := by unfold putP; rw [if_pos rfl, if_neg (by rw [hem]; decide), hgl]; exact if_neg hek
          have HO2 := Lib.hid (HO.out hp)
          clear hp HO hr hx hra hz hb1d hem hgl he hek hav
          rw [hnn]
          go_enter Try.func28, Try.ntmps28
          go_wp2_with fail
          clear hw1
          go_region_law (refine step_app_run rfl (.tmp 53) (.tmp 55) 22 22 rfl _ _ (by simp [Act.eval]) (by simp [Act.eval]) _ _ HR.out ?_)
          go_wp2_with fail
          go_ret
          exact HO2.out
  · have q0 : (k != 2) = true := by simpa using hk
    have hp : putP es ⟨k, (n1, n2), ats, tx⟩ = es ++ [⟨k, (n1, n2), ats, tx⟩] := by unfold putP; rw [if_neg hk]
    have HO2 := Lib.hid (HO.out hp)
    clear hp HO hr hx hra hz hb1d
    rw [hnn]
    go_enter Try.func28, Try.ntmps28
    go_wp2_with fail
    clear hw1
    go_region_law (refine step_app_run rfl (.tmp 53) (.tmp 55) 22 22 rfl _ _ (by simp [Act.eval]) (by simp [Act.eval]) _ _ HR.out ?_)
    go_wp2_with fail
    go_ret
    exact HO2.out
end Go.Proofs.Yteefopeclfojiaa
/- 
  Layer 16: the walks of slices.Equal at attributes, of Same.
 -/
namespace Go.Proofs.Yteefopeclfojiaa
open Go.RowKit
theorem ba_ext {a b : ByteArray} (h : a.toList = b.toList) : a = b := by
  rw [ByteArray.toList_eq, ByteArray.toList_eq] at h
  exact ByteArray.ext (Array.toList_inj.1 h)
theorem toL_self (a : ByteArray) : (a.toList == a.toList) = true := by simp
/-- are two events the same? -/
def sameE (x y : Evt) : Bool := decide (x.k = y.k ∧ x.n = y.n ∧ x.tx = y.tx ∧ x.at_ = y.at_)
theorem sameE_iff {x y : Evt} : sameE x y = true ↔ x = y := by
  unfold sameE
  rw [decide_eq_true_eq]
  obtain ⟨a, b, c, d⟩ := x
  obtain ⟨a', b', c', d'⟩ := y
  simp only [Evt.mk.injEq]
  constructor
  · rintro ⟨h1, h2, h3, h4⟩
    exact ⟨h1, h2, h4, h3⟩
  · rintro ⟨h1, h2, h3, h4⟩
    exact ⟨h1, h2, h4, h3⟩
/-- are two rows of events the same? -/
def sameP : List Evt → List Evt → Bool
  | [], [] => true
  | x :: a, y :: b => sameE x y && sameP a b
  | _, _ => false
theorem sameP_iff : ∀ {a b : List Evt}, sameP a b = true ↔ a = b
  | [], [] => by simp [sameP]
  | [], y :: b => by simp [sameP]
  | x :: a, [] => by simp [sameP]
  | x :: a, y :: b => by rw [sameP, Bool.and_eq_true, sameE_iff, sameP_iff, List.cons.injEq]
theorem sameP_ne {a b : List Evt} (h : ¬ a = b) : sameP a b = false := by
  cases e : sameP a b with
  | false => rfl
  | true => exact absurd (sameP_iff.1 e) h
set_option maxRecDepth 100000 in
set_option maxHeartbeats 4000000 in
theorem attrs_Equal (B : Nat) (l m : List AtT) (v u : Value) (w : World) (hl : CReads B w v l.length (atC l)) (hm : CReads B w u m.length (atC m)) (hB : B ≤ w.heap.size) (hn : l.length ≤ 1000000) :
    Calls Try.prog 69 #[v, u] w fun r w' => r = .returned (.bool (decide (l = m))) ∧ Below w.heap.size w w' := by
  obtain ⟨a, ca, rfl, -⟩ := id hl
  obtain ⟨c, cc, rfl, -⟩ := id hm
  obtain ⟨n, hnn⟩ : ∃ n, l.length = n := ⟨_, rfl⟩
  by_cases hle : l.length = m.length
  · have HN := Lib.hid hnn
    have HM := Lib.hid (hle.symm.trans hnn)
    rw [hnn] at hl hn
    rw [HM.out] at hm
    rw [hnn, HM.out]
    go_enter Try.func69, Try.ntmps69
    go_wp2_with fail
    clear hnn hle
    go_loopw [13] (fun i wr => ∃ k : Nat, i = .int .i64 k ∧ k ≤ n ∧ l.take k = m.take k ∧ Below w.heap.size w wr) (fun i _ => n - (intOf i).toNat)
    case atStart => exact ⟨0, rfl, by omega, rfl, Below.refl _ _⟩
    case round =>
      obtain ⟨k, rfl, hk, hs, hbl⟩ := hrel
      by_cases hlt : k < n
      · obtain ⟨x, hx⟩ : ∃ x, l[k]? = some x := ⟨_, List.getElem?_eq_getElem (by rw [HN.out]; exact hlt)⟩
        obtain ⟨y, hy⟩ : ∃ y, m[k]? = some y := ⟨_, List.getElem?_eq_getElem (by rw [HM.out]; exact hlt)⟩
        obtain ⟨b1, o1, c1, hv1, p0, p1, p2⟩ := hl.attr hbl hB k x hx
        obtain ⟨b2, o2, c2, hv2, q0, q1, q2⟩ := hm.attr hbl hB k y hy
        cases hv1
        cases hv2
        have hd := decide_eq_true (show (k : Int) < (n : Int) by omega)
        have hbd := fun j => below_dn hbl j
        by_cases hxy : x = y
        · subst hxy
          have hs2 : l.take (k + 1) = m.take (k + 1) := by rw [List.take_add_one, List.take_add_one, hs, hx, hy]
          have t1 := toL_self x.1.1
          have t2 := toL_self x.1.2
          have t3 := toL_self x.2
          clear hl hm hx hy hs
          go_wp2_with fail
          go_quiet (fail)
          go_wp2_with fail
          refine ⟨⟨k + 1, by go_num, by omega, hs2, hbd _⟩, ?_⟩
          simp [intOf]
          omega
        · have hdf : ¬ l = m := fun e => by
            rw [e, hy] at hx
            injection hx with h
            exact hxy h.symm
          have HD := Lib.hid (decide_eq_false hdf)
          have hne : (x.1.1.toList == y.1.1.toList) = false ∨ ((x.1.1.toList == y.1.1.toList) = true ∧ (x.1.2.toList == y.1.2.toList) = false) ∨ ((x.1.1.toList == y.1.1.toList) = true ∧ (x.1.2.toList == y.1.2.toList) = true ∧ (x.2.toList == y.2.toList) = false) := by
            by_cases h1 : x.1.1 = y.1.1
            · by_cases h2 : x.1.2 = y.1.2
              · refine .inr (.inr ⟨by rw [h1]; simp, by rw [h2]; simp, toL_ne fun h3 => hxy (Prod.ext (Prod.ext h1 h2) h3)⟩)
              · exact .inr (.inl ⟨by rw [h1]; simp, toL_ne h2⟩)
            · exact .inl (toL_ne h1)
          clear hl hm hx hy hs hdf hxy
          rcases hne with g1 | ⟨g1, g2⟩ | ⟨g1, g2, g3⟩
          all_goals
            go_wp2_with fail
            go_quiet (fail)
            go_wp2_with fail
            go_ret
            exact ⟨ret_bool HD.out.symm, hbd _⟩
      · have hd := decide_eq_false (show ¬ (k : Int) < (n : Int) by omega)
        have hlm : l = m := by
          rw [List.take_of_length_le (by rw [HN.out]; omega), List.take_of_length_le (by rw [HM.out]; omega)] at hs
          exact hs
        have HD := Lib.hid (decide_eq_true hlm)
        clear hl hm hs hlm
        go_wp2_with fail
        go_ret
        exact ⟨ret_bool HD.out.symm, hbl⟩
  · have hdec := decide_eq_false (show ¬ l = m from fun e => hle (by rw [e]))
    rw [hdec]
    have hd : ¬ ((l.length : Int) = (m.length : Int)) := by omega
    clear hl hm hnn hdec
    go_enter Try.func69, Try.ntmps69
    go_wp2_with fail
    go_ret
    exact ⟨rfl, Below.refl _ _⟩
set_option maxRecDepth 100000 in
set_option maxHeartbeats 4000000 in
theorem events_Same1 (B : Nat) (x y : Evt) (av bv : Value) (w : World) (hx : CReads B w av x.at_.length (atC x.at_)) (hy : CReads B w bv y.at_.length (atC y.at_)) (hB : B ≤ w.heap.size) (hn : x.at_.length ≤ 1000000) :
    Calls Try.prog 68 #[evV x av, evV y bv] w fun r w' => r = .returned (.bool (sameE x y)) ∧ Below w.heap.size w w' := by
  obtain ⟨a, ca, rfl, -⟩ := id hx
  obtain ⟨c, cc, rfl, -⟩ := id hy
  obtain ⟨k, ⟨n1, n2⟩, ats, tx⟩ := x
  obtain ⟨k', ⟨n1', n2'⟩, ats', tx'⟩ := y
  simp only at hx hy hn
  unfold evV
  simp only
  have hbA := ((Below.refl w.heap.size w).alloc (Nat.le_refl _) (.cells #[.int .i8 k, .string n1, .string n2, .slice a ats.length ca, .string tx] 30)).alloc (by simp) (.cells #[.int .i8 k', .string n1', .string n2', .slice c ats'.length cc, .string tx'] 30)
  have bX := (BlkAt.new w #[.int .i8 k, .string n1, .string n2, .slice a ats.length ca, .string tx] 30).alloc (.cells #[.int .i8 k', .string n1', .string n2', .slice c ats'.length cc, .string tx'] 30)
  have bY := BlkAt.new (w.alloc (.cells #[.int .i8 k, .string n1, .string n2, .slice a ats.length ca, .string tx] 30)) #[.int .i8 k', .string n1', .string n2', .slice c ats'.length cc, .string tx'] 30
  rw [World.size_alloc] at bY
  have HE := Lib.hid (attrs_Equal B ats ats' _ _ _ (hx.below hbA hB) (hy.below hbA hB) (Nat.le_trans hB hbA.size) hn)
  obtain ⟨w2, hw2⟩ : ∃ z, (w.alloc (.cells #[.int .i8 k, .string n1, .string n2, .slice a ats.length ca, .string tx] 30)).alloc (.cells #[.int .i8 k', .string n1', .string n2', .slice c ats'.length cc, .string tx'] 30) = z := ⟨_, rfl⟩
  rw [hw2] at hbA bX bY HE
  have x0 : _ = some (Value.int .i8 k) := bX.cell 0 rfl
  have x1 : _ = some (Value.string n1) := bX.cell 1 rfl
  have x2 : _ = some (Value.string n2) := bX.cell 2 rfl
  have x3 : _ = some (Value.slice a ats.length ca) := bX.cell 3 rfl
  have x4 : _ = some (Value.string tx) := bX.cell 4 rfl
  have y0 : _ = some (Value.int .i8 k') := bY.cell 0 rfl
  have y1 : _ = some (Value.string n1') := bY.cell 1 rfl
  have y2 : _ = some (Value.string n2') := bY.cell 2 rfl
  have y3 : _ = some (Value.slice c ats'.length cc) := bY.cell 3 rfl
  have y4 : _ = some (Value.string tx') := bY.cell 4 rfl
  clear hx hy bX bY
  have hcs : (k == k') = false ∨ ((k == k') = true ∧ (n1.toList == n1'.toList) = false) ∨ ((k == k') = true ∧ (n1.toList == n1'.toList) = true ∧ (n2.toList == n2'.toList) = false) ∨ ((k == k') = true ∧ (n1.toList == n1'.toList) = true ∧ (n2.toList == n2'.toList) = true ∧ (tx.toList == tx'.toList) = false) ∨ (k = k' ∧ n1 = n1' ∧ n2 = n2' ∧ tx = tx') := by
    by_cases h0 : k = k'
    · by_cases h1 : n1 = n1'
      · by_cases h2 : n2 = n2'
        · by_cases h3 : tx = tx'
          · exact .inr (.inr (.inr (.inr ⟨h0, h1, h2, h3⟩)))
          · exact .inr (.inr (.inr (.inl ⟨by simp [h0], by rw [h1]; simp, by rw [h2]; simp, toL_ne h3⟩)))
        · exact .inr (.inr (.inl ⟨by simp [h0], by rw [h1]; simp, toL_ne h2⟩))
      · exact .inr (.inl ⟨by simp [h0], toL_ne h1⟩)
    · exact .inl (by simpa using h0)
  have hse : sameE ⟨k, (n1, n2), ats, tx⟩ ⟨k', (n1', n2'), ats', tx'⟩ = (k == k' && (n1.toList == n1'.toList) && (n2.toList == n2'.toList) && (tx.toList == tx'.toList) && decide (ats = ats')) := by
    have tl : ∀ a b : ByteArray, (a.toList == b.toList) = decide (a = b) := fun a b => by
      by_cases h : a = b
      · rw [h]; simp
      · rw [toL_ne h, decide_eq_false h]
    unfold sameE
    rw [tl, tl, tl]
    simp only [Prod.mk.injEq]
    by_cases h0 : k = k' <;> by_cases h1 : n1 = n1' <;> by_cases h2 : n2 = n2' <;> by_cases h3 : tx = tx' <;> by_cases h4 : ats = ats' <;> simp [h0, h1, h2, h3, h4]
  rw [hse]
  clear hse
  rcases hcs with g0 | ⟨g0, g1⟩ | ⟨g0, g1, g2⟩ | ⟨g0, g1, g2, g3⟩ | ⟨rfl, rfl, rfl, rfl⟩
  case inr.inr.inr.inr =>
    have t1 := toL_self n1
    have t2 := toL_self n2
    have t3 := toL_self tx
    go_enter Try.func68, Try.ntmps68
    go_wp2_with fail
    refine (HE.out).mono ?_
    rintro r w3 ⟨rfl, hb3⟩
    go_wp2_with fail
    go_ret
    exact ⟨ret_bool (by simp), hbA.trans (hb3.mono hbA.size)⟩
  all_goals
    clear HE
    go_enter Try.func68, Try.ntmps68
    go_wp2_with fail
    go_ret
    exact ⟨ret_bool (by simp [*]), hbA⟩
set_option maxRecDepth 100000 in
set_option maxHeartbeats 4000000 in
theorem events_EqualFunc (B : Nat) (es ms : List Evt) (v u : Value) (w : World) (hr : EvsR B w v es) (hm : EvsR B w u ms) (hB : B ≤ w.heap.size) (hn : es.length ≤ 1000000) (hz : ∀ e ∈ es, e.at_.length ≤ 1000000) :
    Calls Try.prog 67 #[v, u, .func (.func 68) #[] #[]] w fun r w' => r = .returned (.bool (sameP es ms)) ∧ Below w.heap.size w w' := by
  obtain ⟨avs, ⟨a, ca, rfl, -⟩, -⟩ := id hr
  obtain ⟨bvs, ⟨c, cc, rfl, -⟩, -⟩ := id hm
  obtain ⟨n, hnn⟩ : ∃ n, es.length = n := ⟨_, rfl⟩
  by_cases hle : es.length = ms.length
  · have HN := Lib.hid hnn
    have HM := Lib.hid (hle.symm.trans hnn)
    rw [hnn] at hr hn
    rw [HM.out] at hm
    rw [hnn, HM.out]
    go_enter Try.func67, Try.ntmps67
    go_wp2_with fail
    clear hnn hle
    go_loopw [17] (fun i wr => ∃ k : Nat, i = .int .i64 k ∧ k ≤ n ∧ es.take k = ms.take k ∧ Below w.heap.size w wr) (fun i _ => n - (intOf i).toNat)
    case atStart => exact ⟨0, rfl, by omega, rfl, Below.refl _ _⟩
    case round =>
      obtain ⟨k, rfl, hk, hs, hbl⟩ := hrel
      by_cases hlt : k < n
      · obtain ⟨x, hx⟩ : ∃ x, es[k]? = some x := ⟨_, List.getElem?_eq_getElem (by rw [HN.out]; exact hlt)⟩
        obtain ⟨y, hy⟩ : ∃ y, ms[k]? = some y := ⟨_, List.getElem?_eq_getElem (by rw [HM.out]; exact hlt)⟩
        obtain ⟨b1, o1, c1, av, hv1, -, p0, p1, p2, p3, p4, hav⟩ := hr.get hbl hB k x hx
        rw [HN.out] at hv1
        cases hv1
        have hxz := hz x (List.mem_of_getElem? hx)
        have hd := decide_eq_true (show (k : Int) < (n : Int) by omega)
        have hbs := hbl.size
        obtain ⟨aa, ac, rfl, -⟩ := id hav
        obtain ⟨b2, o2, c2, bv, hv2, -, q0, q1, q2, q3, q4, hbv⟩ := hm.get (hbl.alloc hbs (.cells #[.int .i8 x.k, .string x.n.1, .string x.n.2, .slice aa x.at_.length ac, .string x.tx] 30)) hB k y hy
        rw [HM.out] at hv2
        cases hv2
        obtain ⟨ba, bc, rfl, -⟩ := id hbv
        have hb1 := (Below.refl wr.heap.size wr).alloc (Nat.le_refl _) (.cells #[.int .i8 x.k, .string x.n.1, .string x.n.2, .slice aa x.at_.length ac, .string x.tx] 30)
        have hb2 := hb1.alloc hb1.size (.cells #[.int .i8 y.k, .string y.n.1, .string y.n.2, .slice ba y.at_.length bc, .string y.tx] 30)
        have bX := (BlkAt.new wr #[.int .i8 x.k, .string x.n.1, .string x.n.2, .slice aa x.at_.length ac, .string x.tx] 30).alloc (.cells #[.int .i8 y.k, .string y.n.1, .string y.n.2, .slice ba y.at_.length bc, .string y.tx] 30)
        have bY := BlkAt.new (wr.alloc (.cells #[.int .i8 x.k, .string x.n.1, .string x.n.2, .slice aa x.at_.length ac, .string x.tx] 30)) #[.int .i8 y.k, .string y.n.1, .string y.n.2, .slice ba y.at_.length bc, .string y.tx] 30
        rw [World.size_alloc] at bY
        have hb12 := (Below.refl (wr.alloc (.cells #[.int .i8 x.k, .string x.n.1, .string x.n.2, .slice aa x.at_.length ac, .string x.tx] 30)).heap.size (wr.alloc (.cells #[.int .i8 x.k, .string x.n.1, .string x.n.2, .slice aa x.at_.length ac, .string x.tx] 30))).alloc (Nat.le_refl _) (.cells #[.int .i8 y.k, .string y.n.1, .string y.n.2, .slice ba y.at_.length bc, .string y.tx] 30)
        have x0 : _ = some (Value.int .i8 x.k) := bX.cell 0 rfl
        have x1 : _ = some (Value.string x.n.1) := bX.cell 1 rfl
        have x2 : _ = some (Value.string x.n.2) := bX.cell 2 rfl
        have x3 : _ = some (Value.slice aa x.at_.length ac) := bX.cell 3 rfl
        have x4 : _ = some (Value.string x.tx) := bX.cell 4 rfl
        have y0 : _ = some (Value.int .i8 y.k) := bY.cell 0 rfl
        have y1 : _ = some (Value.string y.n.1) := bY.cell 1 rfl
        have y2 : _ = some (Value.string y.n.2) := bY.cell 2 rfl
        have y3 : _ = some (Value.slice ba y.at_.length bc) := bY.cell 3 rfl
        have y4 : _ = some (Value.string y.tx) := bY.cell 4 rfl
        have HE := Lib.hid (events_Same1 B x y _ _ _ (hav.below hb2 (Nat.le_trans hB hbs)) (hbv.below hb12 (Nat.le_trans hB (Nat.le_trans hbs hb1.size))) (Nat.le_trans hB (Nat.le_trans hbs hb2.size)) hxz)
        unfold evV at HE
        have hbw := hbl.trans (hb2.mono hbs)
        by_cases hxy : x = y
        · have hs2 : es.take (k + 1) = ms.take (k + 1) := by rw [List.take_add_one, List.take_add_one, hs, hx, hy, hxy]
          rw [sameE_iff.2 hxy] at HE
          clear hr hm hx hy hs hz bX bY hb12 hb1 hav hbv hxy
          go_wp2_with fail
          refine (HE.out).mono ?_
          rintro r w3 ⟨rfl, hb3⟩
          go_wp2_with fail
          refine ⟨⟨k + 1, by go_num, by omega, hs2, hbw.trans (hb3.mono hbw.size)⟩, ?_⟩
          simp [intOf]
          omega
        · have hdf : ¬ es = ms := fun e => by
            rw [e, hy] at hx
            injection hx with h
            exact hxy h.symm
          have HD := Lib.hid (sameP_ne hdf)
          have hse : sameE x y = false := by
            cases h : sameE x y with
            | false => rfl
            | true => exact absurd (sameE_iff.1 h) hxy
          rw [hse] at HE
          clear hr hm hx hy hs hz bX bY hb12 hb1 hav hbv hxy hse hdf
          go_wp2_with fail
          refine (HE.out).mono ?_
          rintro r w3 ⟨rfl, hb3⟩
          go_wp2_with fail
          go_ret
          exact ⟨ret_bool HD.out.symm, hbw.trans (hb3.mono hbw.size)⟩
      · have hd := decide_eq_false (show ¬ (k : Int) < (n : Int) by omega)
        have hlm : es = ms := by
          rw [List.take_of_length_le (by rw [HN.out]; omega), List.take_of_length_le (by rw [HM.out]; omega)] at hs
          exact hs
        have HD := Lib.hid (sameP_iff.2 hlm)
        clear hr hm hs hlm
        go_wp2_with fail
        go_ret
        exact ⟨ret_bool HD.out.symm, hbl⟩
  · have HD := Lib.hid (sameP_ne (show ¬ es = ms from fun e => hle (by rw [e])))
    have hd : ¬ ((es.length : Int) = (ms.length : Int)) := by omega
    clear hr hm hnn
    go_enter Try.func67, Try.ntmps67
    go_wp2_with fail
    go_ret
    exact ⟨ret_bool HD.out.symm, Below.refl _ _⟩
theorem events_Same (B : Nat) (es ms : List Evt) (v u : Value) (w : World) (hr : EvsR B w v es) (hm : EvsR B w u ms) (hB : B ≤ w.heap.size) (hn : es.length ≤ 1000000) (hz : ∀ e ∈ es, e.at_.length ≤ 1000000) :
    Calls Try.prog 26 #[v, u] w fun r w' => r = .returned (.bool (sameP es ms)) ∧ Below w.heap.size w w' := by
  have HE := Lib.hid (events_EqualFunc B es ms v u w hr hm hB hn hz)
  obtain ⟨avs, ⟨a, ca, rfl, -⟩, -⟩ := id hr
  obtain ⟨bvs, ⟨c, cc, rfl, -⟩, -⟩ := id hm
  clear hr hm
  go_enter Try.func26, Try.ntmps26
  go_wp2_with fail
  refine (HE.out).mono ?_
  rintro r w1 ⟨rfl, hb⟩
  go_wp2_with fail
  go_ret
  exact ⟨rfl, hb⟩
end Go.Proofs.Yteefopeclfojiaa
/- 
  Layer 16: the walk of the document's Great.
 -/
namespace Go.Proofs.Yteefopeclfojiaa
open Go.RowKit
/-- the texts' lengths, each counted up to 9000. -/
def sT : List Evt → Nat
  | [] => 0
  | e :: r => min e.tx.size 9000 + sT r
theorem sT_snoc : ∀ (es : List Evt) (k : Nat) (e : Evt), es[k]? = some e → sT (es.take (k + 1)) = sT (es.take k) + min e.tx.size 9000
  | [], k, e, h => by simp at h
  | x :: r, 0, e, h => by
    simp at h
    subst h
    simp [sT]
  | x :: r, k + 1, e, h => by
    have ih := sT_snoc r k e (by simpa using h)
    rw [List.take_succ_cons, List.take_succ_cons, sT, sT, ih]
    omega
theorem sT_tot : ∀ (es : List Evt), (∀ e ∈ es, e.tx.size ≤ 140737488351232) → sT es ≤ 12000 → (txsL es).length ≤ sT es ∨ (9000 ≤ sT es ∧ (txsL es).length + 9000 ≤ sT es + 140737488351232)
  | [], _, _ => .inl (Nat.le_refl _)
  | x :: r, h, hs => by
    have hx := h x (List.mem_cons_self ..)
    have ih := sT_tot r (fun e he => h e (List.mem_cons_of_mem _ he)) (by rw [sT] at hs; omega)
    have e1 : (txsL (x :: r)).length = x.tx.size + (txsL r).length := by
      show (nums x.tx ++ txsL r).length = _
      rw [List.length_append, nums_length]
    rw [sT] at hs ⊢
    rw [e1]
    rcases ih with h1 | ⟨h1, h2⟩ <;> omega
/-- events that are not too great to be asked. -/
structure GreatOk (es : List Evt) : Prop where
  len : es.length ≤ 300
  ats : ∀ e ∈ es, e.at_.length ≤ 40
  txs : (txsL es).length ≤ 140737488355000
theorem GreatOk.at_le {es : List Evt} (h : GreatOk es) {e : Evt} (he : e ∈ es) : e.tx.size ≤ 140737488355000 := by
  have h1 := h.txs
  obtain ⟨a, b, rfl⟩ := List.append_of_mem he
  have : (txsL (a ++ e :: b)).length = (txsL a).length + (e.tx.size + (txsL b).length) := by
    unfold txsL
    rw [List.flatMap_append, List.flatMap_cons, List.length_append, List.length_append, nums_length]
  omega
theorem minI (a : Nat) (h : a ≤ 4611686018427387904) : (if (9000 : Int) < (a : Int) then 9000 else (a : Int)) = ((min a 9000 : Nat) : Int) := by
  split <;> omega
def GreatS (es : List Evt) (w w' : World) (r : Ending) : Prop := ∃ b, r = .returned (.bool b) ∧ (b = false → GreatOk es) ∧ Below w.heap.size w w'
set_option maxRecDepth 100000 in
set_option maxHeartbeats 8000000 in
theorem ref16_Great (B : Nat) (es : List Evt) (v : Value) (w : World) (hr : EvsR B w v es) (hB : B ≤ w.heap.size) (hn : es.length ≤ 140737488351232) (hz : ∀ e ∈ es, e.tx.size ≤ 140737488351232 ∧ e.n.1.size ≤ 140737488351232 ∧ e.n.2.size ≤ 140737488351232 ∧ e.at_.length ≤ 140737488351232 ∧ ∀ a ∈ e.at_, a.1.1.size ≤ 140737488351232 ∧ a.1.2.size ≤ 140737488351232 ∧ a.2.size ≤ 140737488351232) :
    Calls Try.prog 15 #[v] w fun r w' => GreatS es w w' r := by
  obtain ⟨avs, ⟨a, cap, rfl, -⟩, -⟩ := id hr
  obtain ⟨n, hnn⟩ : ∃ n, es.length = n := ⟨_, rfl⟩
  have HN := Lib.hid hnn
  rw [hnn] at hr hn ⊢
  clear hnn
  go_enter Try.func15, Try.ntmps15
  go_wp2_with fail
  go_loopw [3, 4] (fun s i wr => ∃ (j N : Nat), i = .int .i64 j ∧ s = .int .i64 N ∧ j ≤ n ∧ j ≤ 301 ∧ sT (es.take j) ≤ N ∧ N ≤ j * 1000000 ∧ (∀ e ∈ es.take j, e.at_.length ≤ 40) ∧ Below w.heap.size w wr) (fun _ i _ => 301 - (intOf i).toNat)
  case atStart => exact ⟨0, 0, rfl, rfl, by omega, by omega, by simp [sT], by omega, by simp, Below.refl _ _⟩
  case round =>
    obtain ⟨j, N, rfl, rfl, hj, hj3, hs, hN, ha, hbl⟩ := hrel
    by_cases hlt : j < n
    · have hd := decide_eq_true (show (j : Int) < (n : Int) by omega)
      by_cases h3 : j ≤ 300
      · have hd3 := decide_eq_true (show (j : Int) ≤ 300 by omega)
        obtain ⟨x, hx⟩ : ∃ x, es[j]? = some x := ⟨_, List.getElem?_eq_getElem (by rw [HN.out]; exact hlt)⟩
        have hsn := sT_snoc es j x hx
        have htk : es.take (j + 1) = es.take j ++ [x] := by rw [List.take_add_one, hx]; rfl
        obtain ⟨z0, z1, z2, z3, z4⟩ := hz x (List.mem_of_getElem? hx)
        obtain ⟨b, off, cap', av, hv, hbB, c0, c1, c2, c3, c4, hav⟩ := hr.get hbl hB j x hx
        rw [HN.out] at hv
        cases hv
        obtain ⟨aa, ac, rfl, -⟩ := id hav
        have m1 := minI x.tx.size (by omega)
        have m2 := minI (x.n.1.size + x.n.2.size) (by omega)
        rw [Int.natCast_add] at m2
        obtain ⟨y1, hy1⟩ : ∃ y, min x.tx.size 9000 = y := ⟨_, rfl⟩
        obtain ⟨y2, hy2⟩ : ∃ y, min (x.n.1.size + x.n.2.size) 9000 = y := ⟨_, rfl⟩
        rw [hy1] at m1 hsn
        rw [hy2] at m2
        have hy1' : y1 ≤ 9000 := by omega
        have hy2' : y2 ≤ 9000 := by omega
        have HX := Lib.hid hx
        have HTK := Lib.hid htk
        clear hx htk hr hz
        go_wp2_with fail
        go_quiet (fail)
        have hbd := below_dn hbl nq
        obtain ⟨N1, hN1⟩ : ∃ N1, N + y1 + y2 = N1 := ⟨_, rfl⟩
        rw [show ((N : Int) + (y1 : Int) + (y2 : Int)) = (N1 : Int) by omega]
        have k3 : (wr.drewN nq).cell? ⟨b, off + j * 5 + 3, none⟩ = some (.slice aa x.at_.length ac) := c3
        have hav1 := hav.below (below_dn (Below.refl B wr) nq) (Nat.le_refl _)
        have hBd : B ≤ (wr.drewN nq).heap.size := Nat.le_trans hB hbd.size
        clear c0 c1 c2 c3 c4 m1 m2 hbl hav
        generalize wr.drewN nq = w1 at *
        go_wp2_with fail
        obtain ⟨m, hm⟩ : ∃ m, x.at_.length = m := ⟨_, rfl⟩
        have HM := Lib.hid hm
        rw [hm] at z3 hav1 k3
        clear hm
        go_loopw [3, 5] (fun s i wi => ∃ (k M : Nat), i = .int .i64 k ∧ s = .int .i64 M ∧ k ≤ m ∧ k ≤ 41 ∧ N1 ≤ M ∧ M ≤ N1 + k * 18000 ∧ Below w1.heap.size w1 wi) (fun _ i _ => 41 - (intOf i).toNat)
        case atStart => exact ⟨0, N1, rfl, rfl, by omega, by omega, by omega, by omega, Below.refl _ _⟩
        case round =>
          obtain ⟨k, M, rfl, rfl, hk, hk4, hM1, hM2, hbi⟩ := hrel
          have kk : wr.cell? ⟨b, off + j * 5 + 3, none⟩ = some (.slice aa m ac) := (hbi.cell (p := ⟨b, off + j * 5 + 3, none⟩) (by show b < _; omega)).trans k3
          by_cases hkm : k < m
          · have e1 := decide_eq_true (show (k : Int) < (m : Int) by omega)
            by_cases hk40 : k ≤ 40
            · have e2 := decide_eq_true (show (k : Int) ≤ 40 by omega)
              obtain ⟨y, hy⟩ : ∃ y, x.at_[k]? = some y := ⟨_, List.getElem?_eq_getElem (by rw [HM.out]; exact hkm)⟩
              obtain ⟨s0, s1, s2⟩ := z4 y (List.mem_of_getElem? hy)
              obtain ⟨b2, o2, cp2, hv2, p0, p1, p2⟩ := hav1.attr hbi hBd k y hy
              cases hv2
              obtain ⟨⟨x0, x1⟩, x2⟩ := y
              simp only at p0 p1 p2 s0 s1 s2
              have m1 := minI x2.size (by omega)
              have m2 := minI (x0.size + x1.size) (by omega)
              rw [Int.natCast_add] at m2
              obtain ⟨u1, hu1⟩ : ∃ y, min x2.size 9000 = y := ⟨_, rfl⟩
              obtain ⟨u2, hu2⟩ : ∃ y, min (x0.size + x1.size) 9000 = y := ⟨_, rfl⟩
              rw [hu1] at m1
              rw [hu2] at m2
              have hu1' : u1 ≤ 9000 := by omega
              have hu2' : u2 ≤ 9000 := by omega
              clear hy hu1 hu2 hav1
              go_wp2_with fail
              go_quiet (fail)
              go_wp2_with fail
              refine ⟨⟨k + 1, M + u1 + u2, by go_num, by go_num, by omega, by omega, by omega, by omega, below_dn hbi _⟩, ?_⟩
              simp [intOf]
              omega
            · have e2 := decide_eq_false (show ¬ (k : Int) ≤ 40 by omega)
              have e3 := decide_eq_true (show (40 : Int) < (m : Int) by omega)
              clear hav1
              go_wp2_with fail
              go_ret
              exact ⟨true, rfl, fun h => (by cases h), hbd.trans (hbi.mono hbd.size)⟩
          · have e1 := decide_eq_false (show ¬ (k : Int) < (m : Int) by omega)
            clear hav1
            by_cases h40 : 40 < m
            · go_wp2_with fail
              go_ret
              exact ⟨true, rfl, fun h => (by cases h), hbd.trans (hbi.mono hbd.size)⟩
            · go_wp2_with fail
              refine ⟨⟨j + 1, M, by go_num, rfl, by omega, by omega, by omega, by omega, fun e he => ?_, hbd.trans (hbi.mono hbd.size)⟩, by simp [intOf]; omega⟩
              rw [HTK.out] at he
              rcases List.mem_append.1 he with he | he
              · exact ha e he
              · rw [List.mem_singleton.1 he, HM.out]
                omega
      · have hd3 := decide_eq_false (show ¬ (j : Int) ≤ 300 by omega)
        go_wp2_with fail
        go_ret
        exact ⟨true, rfl, fun h => (by cases h), hbl⟩
    · have hd := decide_eq_false (show ¬ (j : Int) < (n : Int) by omega)
      have hjn : es.take j = es := List.take_of_length_le (by rw [HN.out]; omega)
      rw [hjn] at hs ha
      have HF := Lib.hid (And.intro hs (And.intro ha hz))
      clear hs ha hz hr hjn
      go_wp2_with fail
      · go_ret
        refine ⟨_, rfl, fun h => ?_, hbl⟩
        obtain ⟨hs, ha, hz⟩ := HF.out
        have h1 : (n : Int) ≤ 300 ∧ (N : Int) ≤ 12000 := by simpa using h
        refine ⟨by rw [HN.out]; omega, ha, ?_⟩
        rcases sT_tot es (fun e he => (hz e he).1) (by omega) with h2 | h2 <;> omega
      · go_ret
        exact ⟨true, rfl, fun h => (by cases h), hbl⟩
end Go.Proofs.Yteefopeclfojiaa
/- 
  Layer 16: the walk of the document's fields.
 -/
namespace Go.Proofs.Yteefopeclfojiaa
open Go.RowKit
/-- names of attributes. -/
def atN (l : List AtT) : List (ByteArray × ByteArray) := l.map fun a => a.1
theorem inL_snoc (x y : ByteArray × ByteArray) (l : List (ByteArray × ByteArray)) : inL x (l ++ [y]) = (inL x l || decide (x = y)) := by unfold inL; rw [List.any_append]; simp
theorem inL_mem {x : ByteArray × ByteArray} {l : List (ByteArray × ByteArray)} (h : x ∈ l) : inL x l = true := by
  unfold inL
  rw [List.any_eq_true]
  exact ⟨x, h, by simp⟩
set_option maxRecDepth 100000 in
set_option maxHeartbeats 4000000 in
theorem ref16_fields2 (e : Evt) (a : Option Addr) (n c : Nat) (w : World) (hk : e.k = 2) (hn : e.at_.length = n) :
    Calls Try.prog 66 #[evV e (.slice a n c)] w fun r w' => r = .returned (.bool (fldB e)) ∧ Below w.heap.size w w' := by
  obtain ⟨k, ⟨n1, n2⟩, at_, tx⟩ := e
  simp only at hk hn
  subst hk
  have hf : fldB ⟨2, (n1, n2), at_, tx⟩ = (emB n1 && emB n2 && decide (n = 0) && !emB tx) := by
    unfold fldB
    rw [if_pos rfl]
    subst hn
    cases at_ <;> rfl
  rw [hf]
  unfold evV
  have hb := fun n => (Below.refl w.heap.size w).alloc (Nat.le_refl _) (.cells #[.int .i8 2, .string n1, .string n2, .slice a n c, .string tx] 30)
  clear hf hn
  go_enter Try.func66, Try.ntmps66
  go_wp2_with fail
  all_goals
    go_ret
    exact ⟨ret_bool (by simp_all [emB]), hb _⟩
set_option maxRecDepth 100000 in
set_option maxHeartbeats 4000000 in
theorem ref16_fields1 (e : Evt) (a : Option Addr) (n c : Nat) (w : World) (hk : e.k = 1) (hn : e.at_.length = n) :
    Calls Try.prog 66 #[evV e (.slice a n c)] w fun r w' => r = .returned (.bool (fldB e)) ∧ Below w.heap.size w w' := by
  obtain ⟨k, ⟨n1, n2⟩, at_, tx⟩ := e
  simp only at hk hn
  subst hk
  have hf : fldB ⟨1, (n1, n2), at_, tx⟩ = (!emB n2 && decide (n = 0) && emB tx) := by
    unfold fldB
    rw [if_neg (by show ¬ (1 : Int) = 2; decide), if_pos rfl]
    subst hn
    cases at_ <;> rfl
  rw [hf]
  unfold evV
  have hb := fun n => (Below.refl w.heap.size w).alloc (Nat.le_refl _) (.cells #[.int .i8 1, .string n1, .string n2, .slice a n c, .string tx] 30)
  clear hf hn
  go_enter Try.func66, Try.ntmps66
  go_wp2_with fail
  all_goals
    go_ret
    exact ⟨ret_bool (by simp_all [emB]), hb _⟩
set_option maxRecDepth 100000 in
set_option maxHeartbeats 4000000 in
theorem ref16_fields3 (e : Evt) (a : Option Addr) (n c : Nat) (w : World) (h0 : e.k ≠ 0) (h1 : e.k ≠ 1) (h2 : e.k ≠ 2) :
    Calls Try.prog 66 #[evV e (.slice a n c)] w fun r w' => r = .returned (.bool (fldB e)) ∧ Below w.heap.size w w' := by
  obtain ⟨k, ⟨n1, n2⟩, at_, tx⟩ := e
  simp only at h0 h1 h2
  have hf : fldB ⟨k, (n1, n2), at_, tx⟩ = false := by
    unfold fldB
    rw [if_neg h2, if_neg h1, if_neg h0]
  rw [hf]
  unfold evV
  have hb := (Below.refl w.heap.size w).alloc (Nat.le_refl _) (.cells #[.int .i8 k, .string n1, .string n2, .slice a n c, .string tx] 30)
  have q0 : (k == 0) = false := by simpa using h0
  have q1 : (k == 1) = false := by simpa using h1
  have q2 : (k == 2) = false := by simpa using h2
  clear hf h0 h1 h2
  go_enter Try.func66, Try.ntmps66
  go_wp2_with fail
  all_goals
    go_ret
    exact ⟨rfl, hb⟩
set_option maxRecDepth 100000 in
set_option maxHeartbeats 8000000 in
theorem ref16_fields0 (B : Nat) (e : Evt) (av : Value) (w : World) (hk : e.k = 0) (hr : CReads B w av e.at_.length (atC e.at_)) (hB : B ≤ w.heap.size) (hl : e.at_.length ≤ 140737488351232) :
    Calls Try.prog 66 #[evV e av] w fun r w' => r = .returned (.bool (fldB e)) ∧ Below w.heap.size w w' := by
  obtain ⟨k, ⟨n1, n2⟩, at_, tx⟩ := e
  simp only at hk hr hl
  subst hk
  have hr0 := hr
  obtain ⟨a, c, rfl, -⟩ := hr0
  obtain ⟨n, hn⟩ : ∃ n, at_.length = n := ⟨_, rfl⟩
  have HN := Lib.hid hn
  rw [hn] at hr hl ⊢
  obtain ⟨A, hA⟩ : ∃ A, attGo [] at_ = A := ⟨_, rfl⟩
  have hf : fldB ⟨0, (n1, n2), at_, tx⟩ = (A && !emB n2 && emB tx) := by
    unfold fldB
    rw [if_neg (by show ¬ (0 : Int) = 2; decide), if_neg (by show ¬ (0 : Int) = 1; decide), if_pos rfl, ← hA]
  rw [hf]
  have HA := Lib.hid (show attGo (atN (at_.take 0)) (at_.drop 0) = A from hA)
  unfold evV
  clear hf hn hA
  have hb := (Below.refl w.heap.size w).alloc (Nat.le_refl _) (.cells #[.int .i8 0, .string n1, .string n2, .slice a n c, .string tx] 30)
  have bX := BlkAt.new w #[.int .i8 0, .string n1, .string n2, .slice a n c, .string tx] 30
  go_enter Try.func66, Try.ntmps66
  go_wp2_with fail
  generalize w.alloc (.cells #[.int .i8 0, .string n1, .string n2, .slice a n c, .string tx] 30) = w1 at bX hb ⊢
  obtain ⟨be, hbe⟩ : ∃ b, w.heap.size = b := ⟨_, rfl⟩
  have HBE := Lib.hid hbe
  rw [hbe] at bX hb hB ⊢
  clear hbe
  go_loopw [3] (fun i wr => ∃ j : Nat, i = .int .i64 j ∧ j ≤ n ∧ Hid (attGo (atN (at_.take j)) (at_.drop j) = A) ∧ BlkAt wr be #[.int .i8 0, .string n1, .string n2, .slice a n c, .string tx] ∧ Below be w wr) (fun i _ => n - (intOf i).toNat)
  case atStart => exact ⟨0, rfl, by omega, HA, bX, hb⟩
  case round =>
    clear HA hb bX
    obtain ⟨j, rfl, hj, HK, bX, hb⟩ := hrel
    have x3 : _ = some (Value.slice a n c) := bX.cell 3 rfl
    have hl2 := bX.lt
    by_cases hlt : j < n
    · have hd := decide_eq_true (show (j : Int) < (n : Int) by omega)
      obtain ⟨x, hx⟩ : ∃ x, at_[j]? = some x := ⟨_, List.getElem?_eq_getElem (by rw [HN.out]; exact hlt)⟩
      have hdr : at_.drop j = x :: at_.drop (j + 1) := by
        obtain ⟨h1, h2⟩ := List.getElem?_eq_some_iff.1 hx
        rw [← h2, List.drop_eq_getElem_cons h1]
      have htk : atN (at_.take (j + 1)) = atN (at_.take j) ++ [x.1] := by
        unfold atN
        rw [List.take_add_one, List.map_append, hx]
        rfl
      obtain ⟨b, off, cap, hv, c0, c1, c2⟩ := hr.attr hb hB j x hx
      cases hv
      have hq := HK.out
      rw [hdr, attGo] at hq
      have HQ := Lib.hid hq
      have HTK := Lib.hid htk
      have HX := Lib.hid hx
      clear hq hdr htk HK hx
      go_wp2_with fail
      go_loopw [4] (fun i wi => ∃ k m : Nat, i = .int .i64 k ∧ k ≤ j ∧ wi = wr.drewN m ∧ Hid (inL x.1 (atN (at_.take k)) = false)) (fun i _ => j - (intOf i).toNat)
      case atStart => exact ⟨0, 0, rfl, by omega, rfl, Lib.hid rfl⟩
      case round =>
        rename_i wo _
        obtain ⟨k, m, rfl, hk, rfl, HI⟩ := hrel
        have hbm := below_dn hb m
        have y3 : (World.drewN _ m).cell? ⟨be, 3, none⟩ = some (Value.slice (some ⟨b, off, none⟩) n c) := x3
        have e0 : (World.drewN _ m).cell? ⟨b, off + j * 3, none⟩ = some (Value.string x.1.1) := c0
        have e1 : (World.drewN _ m).cell? ⟨b, off + j * 3 + 1, none⟩ = some (Value.string x.1.2) := c1
        by_cases hkj : k < j
        · have hd2 := decide_eq_true (show (k : Int) < (j : Int) by omega)
          have hkn : k < n := by omega
          obtain ⟨y, hy⟩ : ∃ y, at_[k]? = some y := ⟨_, List.getElem?_eq_getElem (by rw [HN.out]; omega)⟩
          obtain ⟨b', off', cap', hv', p0, p1, p2⟩ := hr.attr hb hB k y hy
          cases hv'
          have hsn : atN (at_.take (k + 1)) = atN (at_.take k) ++ [y.1] := by
            unfold atN
            rw [List.take_add_one, List.map_append, hy]
            rfl
          by_cases hxy : x.1 = y.1
          · have t1 : (x.1.1.toList == y.1.1.toList) = true := by rw [hxy]; simp
            have t2 : (x.1.2.toList == y.1.2.toList) = true := by rw [hxy]; simp
            have hA : A = false := by
              have hm : inL x.1 (atN (at_.take j)) = true := by
                refine inL_mem ?_
                rw [hxy]
                unfold atN
                refine List.mem_map.2 ⟨y, ?_, rfl⟩
                exact List.mem_of_getElem? (i := k) (by rw [List.getElem?_take_of_lt hkj]; exact hy)
              have := HQ.out
              rw [hm] at this
              simpa using this.symm
            have HA := Lib.hid hA
            clear hr hy hsn hxy hA HQ
            go_wp2_with fail
            go_quiet (fail)
            go_wp2_with fail
            go_ret
            exact ⟨ret_bool (by rw [HA.out]; rfl), by rw [HBE.out]; exact below_dn hbm _⟩
          · have HI2 := Lib.hid (show inL x.1 (atN (at_.take (k + 1))) = false by rw [hsn, inL_snoc, HI.out, decide_eq_false hxy]; rfl)
            have hne : (x.1.1.toList == y.1.1.toList) = false ∨ ((x.1.1.toList == y.1.1.toList) = true ∧ (x.1.2.toList == y.1.2.toList) = false) := by
              by_cases h1 : x.1.1 = y.1.1
              · refine .inr ⟨by rw [h1]; simp, toL_ne fun h2 => hxy (Prod.ext h1 h2)⟩
              · exact .inl (toL_ne h1)
            clear hr hy hsn hxy HQ
            rcases hne with g1 | ⟨g1, g2⟩
            all_goals
              go_wp2_with fail
              go_quiet (fail)
              go_wp2_with fail
              exact ⟨⟨k + 1, m + nq, by go_num, by omega, by simp [World.drewN], HI2⟩, by simp [intOf]; omega⟩
        · have hd2 := decide_eq_false (show ¬ (k : Int) < (j : Int) by omega)
          have hkj2 : k = j := by omega
          subst hkj2
          have hin := HI.out
          have hq := HQ.out
          rw [hin] at hq
          have hbX := bX.below (below_dn (Below.refl _ wr) m) hl2
          cases hem : emB x.1.2 with
          | true =>
            have q1 : (x.1.2.toList == []) = true := by rw [emB_eq]; exact hem
            rw [hem] at hq
            have HA := Lib.hid (show false = A from hq)
            clear hr hq hin hem HQ HTK
            go_wp2_with fail
            go_ret
            exact ⟨ret_bool (by rw [← HA.out]; rfl), by rw [HBE.out]; exact hbm⟩
          | false =>
            have q1 : (x.1.2.toList == []) = false := by rw [emB_eq]; exact hem
            rw [hem] at hq
            have HK2 : Hid (attGo (atN (at_.take (k + 1))) (at_.drop (k + 1)) = A) := Lib.hid (by rw [HTK.out]; simpa using hq)
            clear hr hq hin hem HQ HTK
            go_wp2_with fail
            exact ⟨⟨k + 1, by go_num, by omega, HK2, hbX, hbm⟩, by simp [intOf]; omega⟩
    · have hd := decide_eq_false (show ¬ (j : Int) < (n : Int) by omega)
      rw [List.drop_eq_nil_of_le (by rw [HN.out]; omega)] at HK
      have HQ := Lib.hid (show true = A from HK.out)
      have x2 : _ = some (Value.string n2) := bX.cell 2 rfl
      have x4 : _ = some (Value.string tx) := bX.cell 4 rfl
      clear hr HK
      go_wp2_with fail
      all_goals
        go_ret
        exact ⟨ret_bool (by rw [← HQ.out]; simp_all [emB]), by rw [HBE.out]; exact hb⟩
theorem ref16_fields (B : Nat) (e : Evt) (av : Value) (w : World) (hr : CReads B w av e.at_.length (atC e.at_)) (hB : B ≤ w.heap.size) (hl : e.at_.length ≤ 140737488351232) :
    Calls Try.prog 66 #[evV e av] w fun r w' => r = .returned (.bool (fldB e)) ∧ Below w.heap.size w w' := by
  by_cases h0 : e.k = 0
  · exact ref16_fields0 B e av w h0 hr hB hl
  · obtain ⟨a, c, rfl, -⟩ := hr
    by_cases h1 : e.k = 1
    · exact ref16_fields1 e a _ c w h1 rfl
    · by_cases h2 : e.k = 2
      · exact ref16_fields2 e a _ c w h2 rfl
      · exact ref16_fields3 e a _ c w h0 h1 h2
end Go.Proofs.Yteefopeclfojiaa
/- 
  Layer 16: rows of names; the walks of the document's Whole and Depth.
 -/
namespace Go.Proofs.Yteefopeclfojiaa
open Go.RowKit
/-- names as cells. -/
def nmC (l : List (ByteArray × ByteArray)) : List Value := l.flatMap fun n => [.string n.1, .string n.2]
theorem nmC_snoc (l : List (ByteArray × ByteArray)) (n : ByteArray × ByteArray) : nmC (l ++ [n]) = nmC l ++ [.string n.1, .string n.2] := by unfold nmC; rw [List.flatMap_append]; simp
theorem nmC_len (l : List (ByteArray × ByteArray)) : (nmC l).length = l.length * 2 := by
  induction l with
  | nil => rfl
  | cons n r ih =>
    have h1 : (nmC (n :: r)).length = 2 + (nmC r).length := by
      show ([Value.string n.1, .string n.2] ++ nmC r).length = _
      rw [List.length_append]
      rfl
    rw [h1, ih, List.length_cons]
    omega
theorem nmC_at : ∀ (l : List (ByteArray × ByteArray)) (k : Nat) (n : ByteArray × ByteArray), l[k]? = some n → (nmC l)[k * 2]? = some (.string n.1) ∧ (nmC l)[k * 2 + 1]? = some (.string n.2)
  | [], k, n, h => by simp at h
  | x :: r, 0, n, h => by simp at h; subst h; exact ⟨rfl, rfl⟩
  | x :: r, k + 1, n, h => by
    have ih := nmC_at r k n (by simpa using h)
    show ([Value.string x.1, .string x.2] ++ nmC r)[(k + 1) * 2]? = _ ∧ ([Value.string x.1, .string x.2] ++ nmC r)[(k + 1) * 2 + 1]? = _
    rw [show (k + 1) * 2 = k * 2 + 2 by omega, show k * 2 + 2 + 1 = (k * 2 + 1) + 2 by omega]
    exact ih
theorem nmC_take (l : List (ByteArray × ByteArray)) (n : ByteArray × ByteArray) : (nmC (l ++ [n])).take (l.length * 2) = nmC l := by
  rw [nmC_snoc, ← nmC_len, List.take_left']
  rfl
/-- a row of the call's own, cut shorter. -/
theorem own_cut {w : World} {base : Nat} {e : TypeId} {size : Nat} {g n cap : Nat} {xs : List Value} (h : w.ownsRow base e size (.slice (some ⟨g, 0, none⟩) n cap) n xs) (m : Nat) (hm : m ≤ n) : w.ownsRow base e size (.slice (some ⟨g, 0, none⟩) m cap) m (xs.take (m * size)) := by
  obtain ⟨h1, h2⟩ := h
  have hms : m * size ≤ n * size := Nat.mul_le_mul hm (Nat.le_refl _)
  refine ⟨by rw [List.length_take, h1]; omega, ?_⟩
  rcases h2 with ⟨h2, -⟩ | ⟨g', cap', cur, hv, hb, hg, hn, hc, hs, ht⟩
  · cases h2
  · cases hv
    exact .inr ⟨g, cap, cur, rfl, hb, hg, by omega, hc, hs, by rw [← ht, List.take_take, Nat.min_eq_left hms]⟩
theorem infoNm : (Try.prog.info? 24).map (fun i => (i.zero, i.size, i.bytes)) = some (some (.agg #[.string ⟨#[]⟩, .string ⟨#[]⟩]), 2, 32) := by kernel_rfl
/-- 'append(ns, n)' of one name. -/
theorem app_nm (wr : World) (base : Nat) (v : Value) (n : Nat) (xs : List Value) (hown : wr.ownsRow base 24 2 v n xs) (x y : ByteArray) (hn : n < 1099511627776) (hbase : base ≤ wr.heap.size) :
    ∃ v' w', (Builtin.append_ #[38, 38] 38 #[v, .slice (some ⟨wr.heap.size, 0, none⟩) 1 1]).run Try.prog (wr.alloc (.cells #[.string x, .string y] 24)) = .ok v' w' ∧
      w'.ownsRow base 24 2 v' (n + 1) (xs ++ [.string x, .string y]) ∧ Below base wr w' := by
  obtain ⟨i0, hi, hz0, hz1, hz2⟩ := info_parts infoNm
  obtain ⟨v', w', h1, h2, h3, h4⟩ := run_append_own (P := Try.prog) (wr.alloc (.cells #[.string x, .string y] 24)) base 38 38 24 i0 (.agg #[.string ⟨#[]⟩, .string ⟨#[]⟩]) 2 32 Try.underlying38 hi hz0 hz1 hz2 rfl (by decide) v n _ (hown.alloc _) ⟨wr.heap.size, 0, none⟩ 1 1 [.string x, .string y] rfl
    (fun j u hj => by
      match j, hj with
      | 0, hj => simp at hj; subst hj; simp [Addr.add, World.cell?_alloc_mark]
      | 1, hj => simp at hj; subst hj; simp [Addr.add, World.cell?_alloc_mark])
    (fun u hu => by simp at hu; rcases hu with rfl | rfl <;> rfl) (by unfold maxLen; omega) (by omega) (by simp; omega)
  exact ⟨v', w', h1, by simpa using h2, ((Below.refl base wr).alloc hbase _).trans (ownBelow (hown.alloc _) h3 (Nat.le_refl _) (by simp; omega))⟩
/-- the names of the elements at these places. -/
def nmAt (es : List Evt) (os : List Nat) : List (ByteArray × ByteArray) := os.map fun p => ((es[p]?).map Evt.n).getD (⟨#[]⟩, ⟨#[]⟩)
theorem nmAt_snoc (es : List Evt) (os : List Nat) (p : Nat) (x : Evt) (h : es[p]? = some x) : nmAt es (os ++ [p]) = nmAt es os ++ [x.n] := by unfold nmAt; rw [List.map_append, List.map_cons, h]; rfl
theorem nmAt_len (es : List Evt) (os : List Nat) : (nmAt es os).length = os.length := by unfold nmAt; rw [List.length_map]
theorem gstep_no {es : List Evt} {i : Nat} {x : Evt} {op : List Int} {ends : List (Int × Value)} {deep : Nat} (h : ∀ g2, ¬ StepC es i x op ends deep g2) : gstep es i x ⟨op, ends, deep⟩ = none := by
  cases hg : gstep es i x ⟨op, ends, deep⟩ with
  | none => rfl
  | some g2 => exact absurd (gstep_iff.1 hg) (h g2)
/-- what lasts within the loop of the document's Whole. -/
structure RwI (es : List Evt) (R : Option Gr) (w : World) (j : Nat) (vs : Value) (g : Gr) (os : List Nat) (wr : World) : Prop where
  run : R = (grun es j (es.drop j) g).bind (gfin es)
  op : g.op = cI os
  lt : ∀ o ∈ os, o < j
  row : wr.ownsRow w.heap.size 24 2 vs os.length (nmC (nmAt es os))
  bl : Below w.heap.size w wr
  len : os.length ≤ j
set_option maxRecDepth 100000 in
set_option maxHeartbeats 8000000 in
theorem ref16_Whole (B : Nat) (es : List Evt) (v : Value) (w : World) (hr : EvsR B w v es) (hB : B ≤ w.heap.size) (hn : es.length ≤ 1000000) (hz : ∀ e ∈ es, e.at_.length ≤ 140737488351232) :
    Calls Try.prog 24 #[v] w fun r w' => r = .returned (.bool (growP es).isSome) ∧ Below w.heap.size w w' := by
  have hr0 := hr
  obtain ⟨avs, ⟨a, cap, rfl, -⟩, -⟩ := hr0
  obtain ⟨n, hnn⟩ : ∃ n, es.length = n := ⟨_, rfl⟩
  have HN := Lib.hid hnn
  rw [hnn] at hr hn ⊢
  clear hnn
  obtain ⟨R, hR⟩ : ∃ R, growP es = R := ⟨_, rfl⟩
  rw [hR]
  have I0 : RwI es R w 0 (.slice none 0 0) ⟨[], [], 0⟩ [] w := ⟨hR.symm, rfl, fun o h => (by cases h), World.ownsRow_nil _ _ _ _, Below.refl _ _, Nat.le_refl _⟩
  clear hR
  go_enter Try.func24, Try.ntmps24
  go_wp2_with fail
  go_loopw [3, 4] (fun vs i wr => ∃ (j : Nat) (g : Gr) (os : List Nat), i = .int .i64 j ∧ j ≤ n ∧ RwI es R w j vs g os wr) (fun _ i _ => n - (intOf i).toNat)
  case atStart => exact ⟨0, _, [], rfl, by omega, I0⟩
  case round =>
    clear I0
    obtain ⟨j, ⟨op, ends, deep⟩, os, rfl, hj, I⟩ := hrel
    obtain ⟨hrun, hop, holt, hrow, hbl, hol⟩ := I
    simp only at hop
    subst hop
    obtain ⟨va, vl, vc, hvs⟩ := own_slice hrow
    have hvl : vl = os.length := by
      rcases hrow.2 with ⟨h1, h2⟩ | ⟨g', cap', cur, h1, -⟩
      · rw [hvs] at h1
        injection h1 with _ h3
        omega
      · rw [hvs] at h1
        injection h1
    subst hvl
    subst hvs
    by_cases hlt : j < n
    · have hd := decide_eq_true (show (j : Int) < (n : Int) by omega)
      obtain ⟨x, hx⟩ : ∃ x, es[j]? = some x := ⟨_, List.getElem?_eq_getElem (by rw [HN.out]; exact hlt)⟩
      have hdr : es.drop j = x :: es.drop (j + 1) := by
        obtain ⟨h1, h2⟩ := List.getElem?_eq_some_iff.1 hx
        rw [← h2, List.drop_eq_getElem_cons h1]
      have hs0 : R = ((gstep es j x ⟨cI os, ends, deep⟩).bind (grun es (j + 1) (es.drop (j + 1)))).bind (gfin es) := by rw [hrun, hdr, grun]
      have HS := Lib.hid hs0
      obtain ⟨b, off, cap', av, hv, hbB, c0, c1, c2, c3, c4, hav⟩ := hr.get hbl hB j x hx
      rw [HN.out] at hv
      cases hv
      have hxz := hz x (List.mem_of_getElem? hx)
      obtain ⟨aa, ac, rfl, -⟩ := id hav
      obtain ⟨k, ⟨n1, n2⟩, ats, tx⟩ := x
      simp only at c0 c1 c2 c3 c4 hav hxz
      have hbs := hbl.size
      have hb1 := (Below.refl wr.heap.size wr).alloc (Nat.le_refl _) (.cells #[.int .i8 k, .string n1, .string n2, .slice aa ats.length ac, .string tx] 30)
      have bX := BlkAt.new wr #[.int .i8 k, .string n1, .string n2, .slice aa ats.length ac, .string tx] 30
      have hFD := ref16_fields B ⟨k, (n1, n2), ats, tx⟩ (.slice aa ats.length ac) _ (hav.below hb1 (Nat.le_trans hB hbs)) (Nat.le_trans hB (Nat.le_trans hbs hb1.size)) hxz
      unfold evV at hFD
      simp only at hFD
      have hrow1 := own_below hrow hb1 (Nat.le_refl _)
      have hbw := hbl.trans (hb1.mono hbs)
      clear hrun hs0 hav
      cases hfd : fldB ⟨k, (n1, n2), ats, tx⟩ with
      | false =>
        have hRn : R = none := by rw [HS.out, gstep_no (fun g2 h => by rw [h.1] at hfd; cases hfd)]; rfl
        subst hRn
        rw [hfd] at hFD
        have HF := Lib.hid hFD
        clear hFD hfd hr hx hdr HS hz
        go_wp2_with fail
        refine (HF.out).mono ?_
        rintro r w2 ⟨rfl, hb2⟩
        go_wp2_with fail
        go_ret
        exact ⟨rfl, hbw.trans (hb2.mono hbw.size)⟩
      | true =>
        have hk3 := fldB_k hfd
        rw [hfd] at hFD
        have HF := Lib.hid hFD
        have hstep : ∀ g2, gstep es j ⟨k, (n1, n2), ats, tx⟩ ⟨cI os, ends, deep⟩ = some g2 → R = (grun es (j + 1) (es.drop (j + 1)) g2).bind (gfin es) := fun g2 h => by rw [HS.out, h]; rfl
        have hnone : (∀ g2, ¬ StepC es j ⟨k, (n1, n2), ats, tx⟩ (cI os) ends deep g2) → R = none := fun h => by rw [HS.out, gstep_no h]; rfl
        have HP := Lib.hid (fun (u : World) (hu : Below w.heap.size w u) (hru : u.ownsRow w.heap.size 24 2 (.slice va os.length vc) os.length (nmC (nmAt es os))) => app_nm u w.heap.size (.slice va os.length vc) os.length _ hru n1 n2 (by omega) hu.size)
        have hpush : k = 0 → ¬ (cI os = [] ∧ 0 < j) → ∀ (u u' : World) (v' : Value), Below w.heap.size w u → Below w.heap.size u u' → u'.ownsRow w.heap.size 24 2 v' (os.length + 1) (nmC (nmAt es os) ++ [.string n1, .string n2]) → RwI es R w (j + 1) v' ⟨cI os ++ [(j : Int)], ends, max deep ((cI os).length + 1)⟩ (os ++ [j]) u' := fun hk h0 u u' v' hu huu hro =>
          ⟨hstep _ (gstep_iff.2 ⟨hfd, fun h => h0 ⟨h.1, h.2.elim id fun h => absurd hk h⟩, .inl ⟨hk, rfl⟩⟩), by rw [cI_append]; rfl, fun o ho => by
            rcases List.mem_append.1 ho with ho | ho
            · have := holt o ho; omega
            · rw [List.mem_singleton] at ho; omega, by
            rw [List.length_append, nmAt_snoc es os j _ hx, nmC_snoc]
            exact hro, hu.trans huu, by rw [List.length_append]; simp; omega⟩
        have HPU := Lib.hid hpush
        have HNO := Lib.hid hnone
        have HST := Lib.hid hstep
        clear hpush hnone hstep HS hFD
        rcases List.eq_nil_or_concat os with hos | ⟨ini, u, hos⟩
        · subst hos
          simp only [List.length_nil] at hrow hrow1 hol HP HPU ⊢
          rcases Nat.eq_zero_or_pos j with h0 | h0
          · subst h0
            simp only [Nat.zero_mul, Nat.add_zero] at c0 c1 c2 c3 c4
            by_cases hk : k = 0
            · subst hk
              have HPV := Lib.hid (HPU.out rfl (by omega))
              clear hfd hr hx hdr hz hk3 HNO HST holt HPU
              go_wp2_with fail
              refine (HF.out).mono ?_
              rintro r w2 ⟨rfl, hb2⟩
              have bX2 := bX.below hb2 bX.lt
              have f0 : _ = some (Value.int .i8 0) := bX2.cell 0 rfl
              have f1 : _ = some (Value.string n1) := bX2.cell 1 rfl
              have f2 : _ = some (Value.string n2) := bX2.cell 2 rfl
              have hbw2 := hbw.trans (hb2.mono hbw.size)
              obtain ⟨v', w4, hrn, hro, hb4⟩ := HP.out w2 hbw2 (own_below hrow1 hb2 (Nat.le_refl _))
              have HR := Lib.hid hrn
              have HO := Lib.hid (HPV.out w2 w4 v' hbw2 hb4 hro)
              clear hrn hro bX bX2 hrow hrow1
              go_wp2_with (at_builtin; refine wpList_append_run rfl _ _ _ _ rfl _ _ rfl rfl _ _ HR.out ?_)
              exact ⟨⟨0 + 1, _, _, by go_num, by omega, HO.out⟩, by simp [intOf]; omega⟩
            · have hRn := HNO.out fun g2 h => h.2.1 ⟨rfl, .inr hk⟩
              subst hRn
              have q0 : (k == 0) = false := by simpa using hk
              have hk2 : k = 1 ∨ k = 2 := hk3.elim (fun h => absurd h hk) id
              clear hfd hr hx hdr hz hk3 HNO HST HPU HP holt hk
              rcases hk2 with rfl | rfl
              · go_wp2_with fail
                refine (HF.out).mono ?_
                rintro r w2 ⟨rfl, hb2⟩
                have f0 : _ = some (Value.int .i8 1) := (bX.below hb2 bX.lt).cell 0 rfl
                go_wp2_with fail
                go_quiet (fail)
                go_wp2_with fail
                go_ret
                exact ⟨rfl, below_dn (hbw.trans (hb2.mono hbw.size)) _⟩
              · go_wp2_with fail
                refine (HF.out).mono ?_
                rintro r w2 ⟨rfl, hb2⟩
                have f0 : _ = some (Value.int .i8 2) := (bX.below hb2 bX.lt).cell 0 rfl
                go_wp2_with fail
                go_ret
                exact ⟨rfl, hbw.trans (hb2.mono hbw.size)⟩
          · have hRn : R = none := HNO.out fun g2 h => h.2.1 ⟨rfl, .inl h0⟩
            subst hRn
            have hd0 := decide_eq_true (show (0 : Int) < (j : Int) by omega)
            clear hfd hr hx hdr hz hk3 HNO HST HPU HP
            go_wp2_with fail
            refine (HF.out).mono ?_
            rintro r w2 ⟨rfl, hb2⟩
            go_wp2_with fail
            go_ret
            exact ⟨rfl, hbw.trans (hb2.mono hbw.size)⟩
        · have hcn : ¬ cI os = [] := by rw [hos]; simp [cI]
          have hu := holt u (by rw [hos]; simp)
          have hd0 := decide_eq_true (show (0 : Int) < (j : Int) by omega)
          obtain ⟨m, hm⟩ : ∃ m, os.length = m := ⟨_, rfl⟩
          have hm1 : m = ini.length + 1 := by rw [← hm, hos]; simp
          have HM := Lib.hid hm
          rw [hm] at hrow hrow1 hol HP HPU ⊢
          have hm0 : ((m : Int) == 0) = false := by simp; omega
          have hm0' : ¬ (m : Int) = 0 := by omega
          have hmp : 1 ≤ m := by omega
          have HM1 := Lib.hid hm1
          clear hm hm1
          by_cases hk : k = 0
          · subst hk
            have HPV := Lib.hid (HPU.out rfl (fun h => hcn h.1))
            clear hfd hr hx hdr hz hk3 HNO HST holt HPU hcn hos
            go_wp2_with fail
            refine (HF.out).mono ?_
            rintro r w2 ⟨rfl, hb2⟩
            have bX2 := bX.below hb2 bX.lt
            have f0 : _ = some (Value.int .i8 0) := bX2.cell 0 rfl
            have f1 : _ = some (Value.string n1) := bX2.cell 1 rfl
            have f2 : _ = some (Value.string n2) := bX2.cell 2 rfl
            have hbw2 := hbw.trans (hb2.mono hbw.size)
            obtain ⟨v', w4, hrn, hro, hb4⟩ := HP.out w2 hbw2 (own_below hrow1 hb2 (Nat.le_refl _))
            have HR := Lib.hid hrn
            have HO := Lib.hid (HPV.out w2 w4 v' hbw2 hb4 hro)
            clear hrn hro bX bX2 hrow hrow1
            go_wp2_with (at_builtin; refine wpList_append_run rfl _ _ _ _ rfl _ _ rfl rfl _ _ HR.out ?_)
            exact ⟨⟨j + 1, _, _, by go_num, by omega, HO.out⟩, by simp [intOf]; omega⟩
          · have q0 : (k == 0) = false := by simpa using hk
            rcases hk3.elim (fun h => absurd h hk) id with hk1 | hk2
            · simp only at hk1
              subst hk1
              obtain ⟨z, hzz⟩ : ∃ z, es[u]? = some z := ⟨_, List.getElem?_eq_getElem (by rw [HN.out]; omega)⟩
              obtain ⟨g, cp, hva, hcp⟩ : ∃ g cp, va = some ⟨g, 0, none⟩ ∧ vc = cp := by
                rcases hrow.2 with ⟨h1, h2⟩ | ⟨g', cap', cur, h1, -⟩
                · omega
                · injection h1 with h2 h3 h4
                  exact ⟨g', cap', h2, h4⟩
              subst hva
              subst hcp
              have hmc : m ≤ vc := by
                rcases hrow.2 with ⟨h1, h2⟩ | ⟨g', cap', cur, h1, -, -, h2, -⟩
                · omega
                · injection h1 with h2 h3 h4
                  omega
              have hos2 : os = ini ++ [u] := by rw [hos, List.concat_eq_append]
              have hns : nmAt es os = nmAt es ini ++ [z.n] := by rw [hos2]; exact nmAt_snoc es ini u z hzz
              have hnl : (nmAt es ini).length = m - 1 := by rw [nmAt_len]; have := HM1.out; omega
              have hcut := own_cut hrow1 (m - 1) (by omega)
              rw [hns] at hcut hrow1
              have hat := nmC_at (nmAt es ini ++ [z.n]) (m - 1) z.n (by rw [← hnl]; simp)
              rw [← hnl, nmC_take, hnl] at hcut
              have hq2 : ((m : Int) - 1) = ((m - 1 : Nat) : Int) := by omega
              have hq3 : m - 1 < m := by omega
              have hq4 : m - 1 ≤ vc := by omega
              have hq6 : ((m - 1 : Nat) : Int) ≤ (vc : Int) := by omega
              have HRow := Lib.hid hrow1
              have HCut := Lib.hid hcut
              have HAt := Lib.hid hat
              clear hrow hrow1 hcut hat hdr hns hnl
              by_cases hzn : z.n = (n1, n2)
              · have hO := HST.out _ (gstep_iff.2 ⟨hfd, fun h => hcn h.1, .inr (.inr ⟨rfl, (u : Int), by rw [hos2, cI_append]; simp [cI], by rw [Int.toNat_natCast, hzz, ← hzn]; rfl, rfl⟩)⟩)
                have HO := Lib.hid hO
                have t1 := toL_self n1
                have t2 := toL_self n2
                have hoc : (cI os).dropLast = cI ini := by rw [hos2, cI_append]; simp [cI]
                have HI := Lib.hid (fun (u' : World) (hu' : Below w.heap.size w u') (hro : u'.ownsRow w.heap.size 24 2 (.slice (some ⟨g, 0, none⟩) (m - 1) vc) (m - 1) (nmC (nmAt es ini))) => (show RwI es R w (j + 1) (.slice (some ⟨g, 0, none⟩) (m - 1) vc) ⟨(cI os).dropLast, aPut ends (u : Int) (.int .i64 j), deep⟩ ini u' from ⟨HO.out, hoc, fun o ho => by have := holt o (by rw [hos2]; exact List.mem_append_left _ ho); omega, by rw [show ini.length = m - 1 by have := HM1.out; omega]; exact hro, hu', by have := HM1.out; omega⟩))
                clear hO HNO HST HPU HP hr hx hz hos hos2 hcn hfd hk3 holt hoc
                go_wp2_with fail
                refine (HF.out).mono ?_
                rintro r w2 ⟨rfl, hb2⟩
                have bX2 := bX.below hb2 bX.lt
                have f0 : _ = some (Value.int .i8 1) := bX2.cell 0 rfl
                have f1 : _ = some (Value.string n1) := bX2.cell 1 rfl
                have f2 : _ = some (Value.string n2) := bX2.cell 2 rfl
                have hbw2 := hbw.trans (hb2.mono hbw.size)
                have hrow2 := own_below HRow.out hb2 (Nat.le_refl _)
                have p0 := hrow2.cells (g := g) rfl _ _ HAt.out.1
                have p1 := hrow2.cells (g := g) rfl _ _ HAt.out.2
                rw [addr0, Nat.zero_add] at p0 p1
                rw [hzn] at p0 p1
                simp only at p0 p1
                have hcut2 := own_below HCut.out hb2 (Nat.le_refl _)
                clear bX bX2 hrow2
                go_wp2_with fail
                go_quiet (fail)
                go_wp2_with fail
                exact ⟨⟨j + 1, _, _, by go_num, by omega, HI.out _ (below_dn hbw2 _) (own_below hcut2 (below_dn (Below.refl _ w2) _) (Nat.le_refl _))⟩, by simp [intOf]; omega⟩
              · have hRn : R = none := HNO.out fun g2 h => by
                  obtain ⟨-, -, h | h | ⟨-, t, ht, hnm, -⟩⟩ := h
                  · exact absurd h.1 (by simp)
                  · exact absurd h.1 (by simp)
                  · rw [hos2] at ht
                    obtain ⟨ini', u', h1, rfl⟩ := last_cI ht
                    have h2 : u = u' := by simpa using (List.append_inj_right' h1 rfl)
                    subst h2
                    rw [Int.toNat_natCast, hzz] at hnm
                    exact hzn (by simpa using hnm)
                subst hRn
                have hne : (z.n.1.toList == n1.toList) = false ∨ ((z.n.1.toList == n1.toList) = true ∧ (z.n.2.toList == n2.toList) = false) := by
                  by_cases h1 : z.n.1 = n1
                  · refine .inr ⟨by rw [h1]; simp, toL_ne fun h2 => hzn (Prod.ext h1 h2)⟩
                  · exact .inl (toL_ne h1)
                clear HNO HST HPU HP hr hx hz hos hos2 hcn hfd hk3 holt hzn HCut
                go_wp2_with fail
                refine (HF.out).mono ?_
                rintro r w2 ⟨rfl, hb2⟩
                have bX2 := bX.below hb2 bX.lt
                have f0 : _ = some (Value.int .i8 1) := bX2.cell 0 rfl
                have f1 : _ = some (Value.string n1) := bX2.cell 1 rfl
                have f2 : _ = some (Value.string n2) := bX2.cell 2 rfl
                have hbw2 := hbw.trans (hb2.mono hbw.size)
                have hrow2 := own_below HRow.out hb2 (Nat.le_refl _)
                have p0 := hrow2.cells (g := g) rfl _ _ HAt.out.1
                have p1 := hrow2.cells (g := g) rfl _ _ HAt.out.2
                rw [addr0, Nat.zero_add] at p0 p1
                clear bX bX2 hrow2
                rcases hne with g1 | ⟨g1, g2⟩
                all_goals
                  go_wp2_with fail
                  go_quiet (fail)
                  go_wp2_with fail
                  go_ret
                  exact ⟨rfl, below_dn hbw2 _⟩
            · simp only at hk2
              subst hk2
              obtain ⟨y, hy⟩ : ∃ y, es[j - 1]? = some y := ⟨_, List.getElem?_eq_getElem (by rw [HN.out]; omega)⟩
              have hq2 : ((j : Int) - 1) = ((j - 1 : Nat) : Int) := by omega
              have hq3 : j - 1 < n := by omega
              by_cases hyk : y.k = 2
              · have hRn : R = none := HNO.out fun g2 h => by
                  obtain ⟨-, -, h | h | h⟩ := h
                  · exact absurd h.1 (by simp)
                  · exact h.2.1 (by rw [hy, ← hyk]; rfl)
                  · exact absurd h.1 (by simp)
                subst hRn
                clear HNO HST HPU HP
                go_wp2_with fail
                refine (HF.out).mono ?_
                rintro r w2 ⟨rfl, hb2⟩
                have f0 : _ = some (Value.int .i8 2) := (bX.below hb2 bX.lt).cell 0 rfl
                have hbw2 := hbw.trans (hb2.mono hbw.size)
                obtain ⟨b', off', cap', av', hv', -, p0, -⟩ := hr.get hbw2 hB (j - 1) y hy
                rw [HN.out] at hv'
                cases hv'
                rw [hyk] at p0
                clear hr hx hdr hz hy
                go_wp2_with fail
                go_ret
                exact ⟨rfl, hbw2⟩
              · have q1 : (y.k == 2) = false := by simpa using hyk
                have hO := HST.out _ (gstep_iff.2 ⟨hfd, fun h => hcn h.1, .inr (.inl ⟨rfl, fun h => hyk (by rw [hy] at h; simpa using h), rfl⟩)⟩)
                have HO := Lib.hid hO
                clear HNO HST HPU HP hO
                go_wp2_with fail
                refine (HF.out).mono ?_
                rintro r w2 ⟨rfl, hb2⟩
                have f0 : _ = some (Value.int .i8 2) := (bX.below hb2 bX.lt).cell 0 rfl
                have hbw2 := hbw.trans (hb2.mono hbw.size)
                obtain ⟨b', off', cap', av', hv', -, p0, -⟩ := hr.get hbw2 hB (j - 1) y hy
                rw [HN.out] at hv'
                cases hv'
                have hrow2 := own_below hrow1 hb2 (Nat.le_refl _)
                have HI := Lib.hid (show RwI es R w (j + 1) (.slice va m vc) ⟨cI os, ends, deep⟩ os w2 from ⟨HO.out, rfl, fun o ho => by have := holt o ho; omega, by rw [HM.out]; exact hrow2, hbw2, by rw [HM.out]; omega⟩)
                clear hr hx hdr hz hy hrow hrow1 hrow2
                go_wp2_with fail
                exact ⟨⟨j + 1, _, _, by go_num, by omega, HI.out⟩, by simp [intOf]; omega⟩
    · have hd := decide_eq_false (show ¬ (j : Int) < (n : Int) by omega)
      rw [List.drop_eq_nil_of_le (by rw [HN.out]; omega)] at hrun
      obtain ⟨m, hm⟩ : ∃ m, os.length = m := ⟨_, rfl⟩
      have hR : R.isSome = (decide ((0 : Int) < (n : Int)) && ((m : Int) == 0)) := by
        rw [hrun]
        show (gfin es ⟨cI os, ends, deep⟩).isSome = _
        unfold gfin
        have h1 : es = [] ↔ n = 0 := by rw [← HN.out]; exact List.length_eq_zero_iff.symm
        have h2 : cI os = [] ↔ m = 0 := by rw [cI_nil_iff, ← hm]; exact List.length_eq_zero_iff.symm
        by_cases e1 : n = 0
        · rw [if_pos (.inl (h1.2 e1)), decide_eq_false (by omega)]
          rfl
        · by_cases e2 : m = 0
          · rw [if_neg (fun hh => hh.elim (fun h => e1 (h1.1 h)) fun h => h (h2.2 e2)), decide_eq_true (by omega), e2]
            rfl
          · rw [if_pos (.inr fun h => e2 (h2.1 h)), decide_eq_true (by omega), show ((m : Int) == 0) = false by simp; omega]
            rfl
      have HR := Lib.hid hR
      rw [hm] at hrow ⊢
      clear hR hr hrun hm hrow hz
      by_cases e1 : n = 0
      · subst e1
        go_wp2_with fail
        go_ret
        exact ⟨ret_bool (by rw [HR.out]; rfl), hbl⟩
      · have e2 := decide_eq_true (show (0 : Int) < (n : Int) by omega)
        go_wp2_with fail
        go_ret
        exact ⟨ret_bool (by rw [HR.out, e2]; rfl), hbl⟩
end Go.Proofs.Yteefopeclfojiaa
