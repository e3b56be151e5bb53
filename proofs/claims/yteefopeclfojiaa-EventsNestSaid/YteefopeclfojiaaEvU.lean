/-
  Layer 16: the walk of events.Put.
-/
import Derived.Test.YteefopeclfojiaaEvE
import Derived.ArgAppend
import Derived.IntWalk
import Derived.Deep.RegionLaw
namespace Go.Proofs.Yteefopeclfojiaa
open Go.RowKit
/-- a slice's capacity holds its length. -/
def CapR (v : Value) (n : Nat) : Prop := ∃ a cap, v = .slice a n cap ∧ n ≤ cap ∧ cap ≤ maxLen
/-- an event put behind. -/
def putP (es : List Evt) (x : Evt) : List Evt :=
  if x.k = 2 then (if emB x.tx then es else match es.getLast? with
    | none => es ++ [x]
    | some e => if e.k = 2 then es.dropLast ++ [{ e with tx := e.tx ++ x.tx }] else es ++ [x])
  else es ++ [x]
theorem evsC_snoc : ∀ (es : List Evt) (avs : List Value) (x : Evt) (av : Value), avs.length = es.length → evsC (es ++ [x]) (avs ++ [av]) = evsC es avs ++ evC x av
  | [], [], x, av, _ => by simp [evsC]
  | e :: es, a :: as_, x, av, h => by
    rw [List.cons_append, List.cons_append, evsC, evsC, evsC_snoc es as_ x av (by simpa using h), List.append_assoc]
theorem evsC_len : ∀ (es : List Evt) (avs : List Value), avs.length = es.length → (evsC es avs).length = es.length * 5
  | [], [], _ => rfl
  | e :: es, a :: as_, h => by
    rw [evsC, List.length_append, evsC_len es as_ (by simpa using h), List.length_cons]
    show 5 + _ = _
    omega
theorem AtsR.snoc {B : Nat} {w : World} : ∀ {es : List Evt} {avs : List Value} {x : Evt} {av : Value}, AtsR B w es avs → CReads B w av x.at_.length (atC x.at_) → AtsR B w (es ++ [x]) (avs ++ [av])
  | [], [], _, _, _, h => ⟨h, trivial⟩
  | _ :: _, _ :: _, _, _, h, h2 => ⟨h.1, AtsR.snoc h.2 h2⟩
theorem evC_one {x : Evt} {av : Value} (h : av.oneCell' = true) : ∀ u ∈ evC x av, u.oneCell' = true := by
  intro u hu
  unfold evC at hu
  simp only [List.mem_cons, List.not_mem_nil, or_false] at hu
  rcases hu with rfl | rfl | rfl | rfl | rfl <;> first | rfl | exact h
theorem infoEvt : (Try.prog.info? 30).map (fun i => (i.zero, i.size, i.bytes)) = some (some (.agg #[.int .i8 0, .string ⟨#[]⟩, .string ⟨#[]⟩, .slice none 0 0, .string ⟨#[]⟩]), 5, 80) := by kernel_rfl
set_option maxRecDepth 100000 in
/-- 'append(l[:n:n], x)'. -/
theorem app_evt (B : Nat) (wr : World) (a : Option Addr) (es : List Evt) (x : Evt) (av : Value) (hr : EvsR B wr (.slice a es.length es.length) es) (hB : B ≤ wr.heap.size) (hx : CReads B wr av x.at_.length (atC x.at_)) (hn : es.length < 1000000) (hz : a = none → es = []) :
    ∃ v' w', (Builtin.append_ #[22, 22] 22 #[.slice a es.length es.length, .slice (some ⟨wr.heap.size, 0, none⟩) 1 1]).run Try.prog (wr.alloc (.cells #[.int .i8 x.k, .string x.n.1, .string x.n.2, av, .string x.tx] 30)) = .ok v' w' ∧
      EvsR w'.heap.size w' v' (es ++ [x]) ∧ CapR v' (es ++ [x]).length ∧ Below wr.heap.size wr w' := by
  obtain ⟨i0, hi, hz0, hz1, hz2⟩ := info_parts infoEvt
  obtain ⟨w1, hw1⟩ : ∃ a, wr.alloc (.cells #[.int .i8 x.k, .string x.n.1, .string x.n.2, av, .string x.tx] 30) = a := ⟨_, rfl⟩
  have hb1 : Below wr.heap.size wr w1 := by rw [← hw1]; exact (Below.refl _ wr).alloc (Nat.le_refl _) _
  have hs1 : w1.heap.size = wr.heap.size + 1 := by rw [← hw1, World.size_alloc]
  have hnews : ∀ j u, (evC x av)[j]? = some u → w1.cell? ((⟨wr.heap.size, 0, none⟩ : Addr).add j) = some u := fun j u hj => by
    rw [← hw1, addr0, World.cell?_alloc_mark]
    simpa [evC] using hj
  have hav : av.oneCell' = true := by
    obtain ⟨a, c, rfl, -⟩ := hx
    rfl
  have hr1 := hr.below hb1 hB
  obtain ⟨avs, ⟨a', cap', hv, hc⟩, hats⟩ := hr1
  have hal := hats.len
  have fin : ∀ (base : Nat) (v' : Value) (w' : World), w'.ownsRow base 30 5 v' (es.length + 1) (evsC es avs ++ evC x av) → Below w1.heap.size w1 w' →
      EvsR w'.heap.size w' v' (es ++ [x]) ∧ CapR v' (es ++ [x]).length ∧ Below wr.heap.size wr w' := fun base v' w' ho hb => by
    have hbb := hb1.trans (hb.mono hb1.size)
    have hBw : B ≤ w'.heap.size := Nat.le_trans hB hbb.size
    refine ⟨⟨avs ++ [av], ?_, ?_⟩, ?_, hbb⟩
    · rw [evsC_snoc es avs x av hal, List.length_append]
      exact CReads.of_own ho
    · exact AtsR.snoc ((hats.below hb (by omega)).mono hBw) ((hx.below hbb hB).mono hBw)
    · rw [List.length_append]
      rcases ho.2 with ⟨rfl, h0⟩ | ⟨g, cap, cur, rfl, _, _, h2, h3, _⟩
      · omega
      · exact ⟨_, cap, rfl, h2, h3⟩
  rw [hw1]
  cases a with
  | none =>
    have he := hz rfl
    subst he
    obtain ⟨v', w', hrun, h2, h3, _⟩ := run_append_own (P := Try.prog) w1 w1.heap.size 22 22 30 i0 _ 5 80 Try.underlying22 hi hz0 hz1 hz2 rfl (by decide) (.slice none 0 0) 0 [] (World.ownsRow_nil _ _ _ _) ⟨wr.heap.size, 0, none⟩ 1 1 (evC x av) rfl
      hnews (evC_one hav) (by unfold maxLen; omega) (by omega) (Nat.le_refl _)
    have hn0 : avs = [] := List.eq_nil_of_length_eq_zero hal
    subst hn0
    exact ⟨v', w', hrun, fin w1.heap.size v' w' (by simpa [evsC] using h2) (ownBelow (World.ownsRow_nil w1 w1.heap.size 30 5) h3 (Nat.le_refl _) (Nat.le_refl _))⟩
  | some ad =>
    obtain ⟨v', w', hrun, h2, h3⟩ := run_append_arg_grows (P := Try.prog) (w := w1) 22 22 30 i0 _ 5 80 Try.underlying22 hi hz0 hz1 hz2 rfl (by decide) ad es.length es.length (evsC es avs) (evsC_len es avs hal)
      (fun j u hj => by
        obtain ⟨b, off, hbb, _, hcc⟩ := hc j u hj
        injection hv with e1
        rw [← e1] at hbb
        injection hbb with hbb
        subst hbb
        rw [show (⟨b, off, none⟩ : Addr).add j = ⟨b, off + j, none⟩ by unfold Addr.add; split <;> simp_all]
        exact hcc)
      ⟨wr.heap.size, 0, none⟩ 1 1 (evC x av) rfl hnews (by omega) (by unfold maxLen; omega) (by omega)
    exact ⟨v', w', hrun, fin _ v' w' h2 ⟨h3.os, h3.tape, h3.output, h3.size, fun k hk => h3.block k hk (by simp)⟩⟩
/-- an append whose run is known, as a step of a region that draws. -/
theorem step_app_run {P : Program} {ops : Array Oper} {o : Oper} {a : Act} {w : World} {K : Act → World → Prop} {Q : Exit → Act → World → Prop} {E : Prop}
    (hg : o.guard = none) (s x : Operand) (t tx : TypeId) (hop : o.op = Op.call { callee := Callee.builtin Builtin.append, args := #[s, x], argTypes := #[t, tx] })
    (v xv : Value) (hs : a.eval s = v) (hx : a.eval x = xv) (v' : Value) (w' : World) (hr : (Builtin.append_ #[t, tx] o.type #[v, xv]).run P w = .ok v' w') (hK : K (a.put o.dst v') w') :
    if Region.wanted o (yielded ops a.tmps) = true then Oper.wp P o a w K Q else E := by
  have hw : Region.wanted o (yielded ops a.tmps) = true := by simp [Region.wanted, hg]
  rw [if_pos hw]
  unfold Oper.wp
  simp [execOp, hop, resolve, invoke, builtin, hs, hx, hr, Result.andThen]
  exact hK
/-- what Put comes to. -/
def PutS (w w' : World) (l : List Evt) (r : Ending) : Prop := ∃ v', r = .returned v' ∧ EvsR w'.heap.size w' v' l ∧ CapR v' l.length ∧ Below w.heap.size w w'
set_option maxRecDepth 100000 in
set_option maxHeartbeats 8000000 in
theorem events_Put (B : Nat) (es : List Evt) (v : Value) (x : Evt) (av : Value) (w : World) (hr : EvsR B w v es) (hB : B ≤ w.heap.size) (hx : CReads B w av x.at_.length (atC x.at_)) (hcap : CapR v es.length) (hn : es.length < 1000000)
    (hz : ∀ e ∈ es, e.tx.size ≤ 1152921504606846976) (hxz : x.tx.size ≤ 1152921504606846976) :
    Calls Try.prog 28 #[v, evV x av] w fun r w' => PutS w w' (putP es x) r := by
  obtain ⟨a, cap, rfl, hc1, hc2⟩ := hcap
  obtain ⟨k, ⟨n1, n2⟩, ats, tx⟩ := x
  obtain ⟨aa, ac, rfl, -⟩ := id hx
  simp only at hx hxz
  have hra : a = none → es = [] := fun h => by
    subst h
    cases es with
    | nil => rfl
    | cons e r =>
      obtain ⟨b, off, c, av', h1, _⟩ := hr.get (Below.refl B w) (Nat.le_refl _) 0 e rfl
      cases h1
  have bX := BlkAt.new w #[.int .i8 k, .string n1, .string n2, .slice aa ats.length ac, .string tx] 30
  have hb1 := (Below.refl w.heap.size w).alloc (Nat.le_refl _) (.cells #[.int .i8 k, .string n1, .string n2, .slice aa ats.length ac, .string tx] 30)
  have hcut : EvsR B w (.slice a es.length es.length) es := by
    obtain ⟨avs, ⟨a', cap', hv, hc⟩, ha⟩ := hr
    injection hv with e1
    subst e1
    exact ⟨avs, ⟨a, es.length, rfl, hc⟩, ha⟩
  unfold evV
  simp only
  obtain ⟨w1, hw1⟩ : ∃ y, w.alloc (.cells #[.int .i8 k, .string n1, .string n2, .slice aa ats.length ac, .string tx] 30) = y := ⟨_, rfl⟩
  rw [hw1] at bX hb1
  have hb1d : Below w.heap.size w w1.drew := hb1.drew
  obtain ⟨v', w', hrun, h1, h2, h3⟩ := app_evt B w1.drew a es ⟨k, (n1, n2), ats, tx⟩ (.slice aa ats.length ac) (hcut.below hb1d hB) (Nat.le_trans hB hb1d.size) (hx.below hb1d hB) hn hra
  have hOut : putP es ⟨k, (n1, n2), ats, tx⟩ = es ++ [⟨k, (n1, n2), ats, tx⟩] → PutS w w' (putP es ⟨k, (n1, n2), ats, tx⟩) (.returned v') := fun h => by
    rw [h]
    exact ⟨v', rfl, h1, h2, hb1d.trans (h3.mono hb1d.size)⟩
  obtain ⟨nn, hnn⟩ : ∃ n, es.length = n := ⟨_, rfl⟩
  rw [hnn] at hc1 hn hrun
  have HR := Lib.hid hrun
  have HO := Lib.hid hOut
  have e0 : _ = some (Value.int .i8 k) := bX.cell 0 rfl
  have e1 : _ = some (Value.string n1) := bX.cell 1 rfl
  have e2 : _ = some (Value.string n2) := bX.cell 2 rfl
  have e3 : _ = some (Value.slice aa ats.length ac) := bX.cell 3 rfl
  have e4 : _ = some (Value.string tx) := bX.cell 4 rfl
  clear hrun hOut h1 h2 h3 hcut
  by_cases hk : k = 2
  · subst hk
    cases hem : emB tx with
    | true =>
      have q0 : (tx.toList == []) = true := by rw [emB_eq]; exact hem
      have hp : putP es ⟨2, (n1, n2), ats, tx⟩ = es := by unfold putP; rw [if_pos rfl, if_pos hem]
      have hO : PutS w w1 (putP es ⟨2, (n1, n2), ats, tx⟩) (.returned (.slice a es.length cap)) := by
        rw [hp]
        exact ⟨_, rfl, (hr.below hb1 hB).mono (Nat.le_trans hB hb1.size), ⟨a, cap, rfl, by omega, hc2⟩, hb1⟩
      rw [hnn] at hO ⊢
      have HO2 := Lib.hid hO
      clear hp hO HO HR hr hx hra hz hb1d hem
      go_enter Try.func28, Try.ntmps28
      go_wp2_with fail
      go_ret
      exact HO2.out
    | false =>
      have q0 : (tx.toList == []) = false := by rw [emB_eq]; exact hem
      rcases Nat.eq_zero_or_pos nn with h0 | h0
      · have hes : es = [] := List.eq_nil_of_length_eq_zero (by omega)
        have hp : putP es ⟨2, (n1, n2), ats, tx⟩ = es ++ [⟨2, (n1, n2), ats, tx⟩] := by unfold putP; rw [if_pos rfl, if_neg (by rw [hem]; decide), hes]; rfl
        have HO2 := Lib.hid (HO.out hp)
        clear hp HO hr hx hra hz hb1d hem hes
        subst h0
        rw [hnn]
        go_enter Try.func28, Try.ntmps28
        go_wp2_with fail
        clear hw1
        go_region_law (refine step_app_run rfl (.tmp 53) (.tmp 55) 22 22 rfl _ _ (by simp [Act.eval]) (by simp [Act.eval]) _ _ HR.out ?_)
        go_wp2_with fail
        go_ret
        exact HO2.out
      · obtain ⟨e, he⟩ : ∃ e, es[nn - 1]? = some e := ⟨_, List.getElem?_eq_getElem (by omega)⟩
        have hgl : es.getLast? = some e := by rw [List.getLast?_eq_getElem?, hnn]; exact he
        obtain ⟨b, off, cap', av, hv, hbB, c0, c1, c2, c3, c4, hav⟩ := hr.get hb1 hB (nn - 1) e he
        injection hv with ea eb ec
        subst ea
        clear eb ec
        by_cases hek : e.k = 2
        · have q1 : (e.k == 2) = true := by simpa using hek
          obtain ⟨ek, ⟨en1, en2⟩, eat, etx⟩ := e
          simp only at hek c0 c1 c2 c3 c4 hav q1
          subst hek
          obtain ⟨ea, ec, rfl, -⟩ := id hav
          have htz := hz _ (List.mem_of_getElem? he)
          simp only at htz
          have htk : (es.take (nn - 1)).length = nn - 1 := by rw [List.length_take]; omega
          have hp : putP es ⟨2, (n1, n2), ats, tx⟩ = es.take (nn - 1) ++ [⟨2, (en1, en2), eat, etx ++ tx⟩] := by
            unfold putP
            rw [if_pos rfl, if_neg (by rw [hem]; decide), hgl, List.dropLast_eq_take, hnn]
            exact if_pos rfl
          have bL := BlkAt.new w1 #[.int .i8 2, .string en1, .string en2, .slice ea eat.length ec, .string etx] 30
          have hbL := (Below.refl w1.heap.size w1).alloc (Nat.le_refl _) (.cells #[.int .i8 2, .string en1, .string en2, .slice ea eat.length ec, .string etx] 30)
          have g4 := bL.free 4
          have d4 : _ = some (Value.string etx) := bL.cell 4 rfl
          have k4 : _ = some (Value.string tx) := (bX.alloc (.cells #[.int .i8 2, .string en1, .string en2, .slice ea eat.length ec, .string etx] 30)).cell 4 rfl
          have bM := bL.set 4 (.string (etx ++ tx))
          have hbM := hbL.setCell (p := ⟨w1.heap.size, 4, none⟩) (Nat.le_refl _) (.string (etx ++ tx))
          obtain ⟨w3, hw3⟩ : ∃ y, (w1.alloc (.cells #[.int .i8 2, .string en1, .string en2, .slice ea eat.length ec, .string etx] 30)).setCell ⟨w1.heap.size, 4, none⟩ (.string (etx ++ tx)) = y := ⟨_, rfl⟩
          rw [hw3] at bM hbM
          have f0 : w3.cell? ⟨w1.heap.size, 0, none⟩ = some (Value.int .i8 2) := bM.cell 0 rfl
          have f1 : w3.cell? ⟨w1.heap.size, 1, none⟩ = some (Value.string en1) := bM.cell 1 rfl
          have f2 : w3.cell? ⟨w1.heap.size, 2, none⟩ = some (Value.string en2) := bM.cell 2 rfl
          have f3 : w3.cell? ⟨w1.heap.size, 3, none⟩ = some (Value.slice ea eat.length ec) := bM.cell 3 rfl
          have f4 : w3.cell? ⟨w1.heap.size, 4, none⟩ = some (Value.string (etx ++ tx)) := bM.cell 4 rfl
          have hb3 : Below w.heap.size w w3.drew := (hb1.trans (hbM.mono hb1.size)).drew
          have hcut : EvsR B w (.slice (some ⟨b, off, none⟩) (es.take (nn - 1)).length (es.take (nn - 1)).length) (es.take (nn - 1)) := by
            have h1 := hr.sub 0 (nn - 1) (nn - 1) (by omega)
            rw [htk]
            simpa using h1
          obtain ⟨v3, w4, hrun3, h1, h2, h3⟩ := app_evt B w3.drew (some ⟨b, off, none⟩) (es.take (nn - 1)) ⟨2, (en1, en2), eat, etx ++ tx⟩ (.slice ea eat.length ec) (hcut.below hb3 hB) (Nat.le_trans hB hb3.size) (hav.below (hbM.drew.mono hb1.size) hB) (by omega) (fun h => by cases h)
          have hO : PutS w w4 (putP es ⟨2, (n1, n2), ats, tx⟩) (.returned v3) := by
            rw [hp]
            exact ⟨v3, rfl, h1, h2, hb3.trans (h3.mono hb3.size)⟩
          rw [htk] at hrun3
          have HR3 := Lib.hid hrun3
          have HO2 := Lib.hid hO
          have hq1 : ¬ (9223372036854775807 : Nat) < etx.size + tx.size := by omega
          have hq2 : ((nn : Int) - 1) = ((nn - 1 : Nat) : Int) := by omega
          have hq3 : nn - 1 ≤ cap := by omega
          have hq5 : nn ≤ cap + 1 := by omega
          have hq7 : IntKind.i64.wrap ((nn - 1 : Nat) : Int) = ((nn - 1 : Nat) : Int) := by rw [IntKind.wrap_i64]; omega
          have hq8 : max ((nn - 1 : Nat) : Int) 0 = ((nn - 1 : Nat) : Int) := by omega
          have hq6 : ((nn - 1 : Nat) : Int) ≤ (cap : Int) := by omega
          clear hp HO HR hO hrun3 h1 h2 h3 hr hx hra hz hb1d hem hgl he hav bM hcut
          rw [hnn]
          go_enter Try.func28, Try.ntmps28
          go_wp2_with fail
          clear hw3 hw1
          go_region_law (refine step_app_run rfl (.tmp 46) (.tmp 48) 22 22 rfl _ _ (by simp [Act.eval]) (by simp [Act.eval]) _ _ HR3.out ?_)
          go_wp2_with fail
          go_ret
          exact HO2.out
        · have q1 : (e.k == 2) = false := by simpa using hek
          have hp : putP es ⟨2, (n1, n2), ats, tx⟩ = es ++ [⟨2, (n1, n2), ats, tx⟩] := by unfold putP; rw [if_pos rfl, if_neg (by rw [hem]; decide), hgl]; exact if_neg hek
          have HO2 := Lib.hid (HO.out hp)
          clear hp HO hr hx hra hz hb1d hem hgl he hek hav
          rw [hnn]
          go_enter Try.func28, Try.ntmps28
          go_wp2_with fail
          clear hw1
          go_region_law (refine step_app_run rfl (.tmp 53) (.tmp 55) 22 22 rfl _ _ (by simp [Act.eval]) (by simp [Act.eval]) _ _ HR.out ?_)
          go_wp2_with fail
          go_ret
          exact HO2.out
  · have q0 : (k != 2) = true := by simpa using hk
    have hp : putP es ⟨k, (n1, n2), ats, tx⟩ = es ++ [⟨k, (n1, n2), ats, tx⟩] := by unfold putP; rw [if_neg hk]
    have HO2 := Lib.hid (HO.out hp)
    clear hp HO hr hx hra hz hb1d
    rw [hnn]
    go_enter Try.func28, Try.ntmps28
    go_wp2_with fail
    clear hw1
    go_region_law (refine step_app_run rfl (.tmp 53) (.tmp 55) 22 22 rfl _ _ (by simp [Act.eval]) (by simp [Act.eval]) _ _ HR.out ?_)
    go_wp2_with fail
    go_ret
    exact HO2.out
end Go.Proofs.Yteefopeclfojiaa
