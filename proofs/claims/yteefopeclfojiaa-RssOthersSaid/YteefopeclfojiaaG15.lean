/-
  Parts RsL of this seat's texts, in one file: contracts of functions that the law reaches, and the plain laws behind them. No condition.
-/
import Derived.Test.YteefopeclfojiaaG14
import Derived.Test.YteefopeclfojiaaG5
/- 
  Layer 23: the walk of rss.Parse.
 -/
namespace Go.Proofs.Yteefopeclfojiaa
open Go.RowKit
attribute [local go_sem] Oper.semAt_some
theorem kindP_none {es : List Evt} (h : growP es = none) : kindP es = 0 := by unfold kindP; rw [h]; rfl
theorem kindP_some {es : List Evt} {g : Gr} {y : Evt} (h : growP es = some g) (hy : es[0]? = some y) : kindP es = kindR y.n := by unfold kindP; rw [h, hy]; rfl
theorem feedR_none {es : List Evt} (h : kindP es = 0) : feedR es = rawNone := by unfold feedR; rw [if_pos h]
theorem kindR_or (n : NmT) : kindR n = 0 ∨ kindR n = 1 ∨ kindR n = 2 := by unfold kindR; split <;> (try split) <;> simp
/-- what lasts within the range over channels. -/
structure ChJ (w : World) (V : Value) (R : RawT) (fx : Nat) (L : List Nat) (W : World) : Prop where
  J : PaJ w V R W
  F : FrAt W (w.heap.size + 2) fx L
theorem ChJ.up {w : World} {V : Value} {R : RawT} {fx : Nat} {L : List Nat} {W W' : World} (h : ChJ w V R fx L W) (hb : Below W.heap.size W W') : ChJ w V R fx L W' := ⟨h.J.up hb, h.F.up hb⟩
theorem ChJ.turn {w : World} {V : Value} {R : RawT} {fx : Nat} {L : List Nat} {B : Nat} (hB : w.heap.size + 2 ≤ B) {X Y : World} (h : ChJ w V R fx L X) (ht : Turns NoMu B X Y) : ChJ w V R fx L Y := ⟨h.J.turn hB ht, h.F.turn ht⟩
def chFrom (f : Int) (x : Nat) : List Nat := if f = 1 then [x, 0] else [0]
def ChI (w : World) (V : Value) (f : Int) (fx : Nat) (pre : List Nat) (W : World) : Prop := pre = [] ∧ ChJ w V ⟨f, Itm.none, []⟩ fx [0] W
def ChX (es : List Evt) (w : World) (V : Value) (f : Int) (fx : Nat) (c : Code) (pre : List Nat) (W : World) : Prop := c = .exit 0 ∧ ∃ x, pre = [x] ∧ ChJ w V ⟨f, foundP (partP es x) headF, []⟩ fx (chFrom f x) W
def PaC (w' : World) (w : World) (es : List Evt) (r : Ending) : Prop := ∃ u, r = .returned (.tuple #[u, .int .i64 (if kindP es = 0 then 43 else 0)]) ∧ RawS (w.heap.size + 2) w' (feedR es) u ∧ Below w.heap.size w w'
def itK (es : List Evt) (f : Int) (k : Nat) : Itm := foundP (partP es k) (itemF f)
/-- what holds at the head of Parse's loop over where items are looked for. -/
def PaL (es : List Evt) (V P0 P1 N F S0 Fn : Value) (w : World) (f : Int) (H : Itm) (fx fb : Nat) (L : List Nat) (n : Nat) (a' : Act) (wr : World) : Prop :=
  ∃ (u7 u8 u46 u47 u48 u49 u50 u51 u52 u53 u54 u55 u56 u57 u58 u59 u60 u61 u62 u63 u64 u65 u66 : Value) (k : Nat) (kv : Int) (Ds : List Nat), a' = { tmps := #[V, .pointer (some ⟨w.heap.size, 0, none⟩), .pointer (some ⟨w.heap.size + 1, 0, none⟩), .int .i64 0, .pointer (some ⟨fx, 0, none⟩), undef, undef, u7, u8, V, .bool true, .bool false, .bool false, V, P0, P1, N, F, .bool false, .bool false, undef, V, P0, P1, N, F, .pointer (some ⟨w.heap.size + 1, 0, none⟩), S0, V, .agg #[.string ⟨#[]⟩, .string ⟨#[99, 104, 97, 110, 110, 101, 108]⟩], Fn, undef, undef, undef, undef, undef, undef, undef, undef, undef, undef, undef, undef, .slice (some ⟨fb, 0, none⟩) n n, .int .i64 n, .int .i64 kv, u46, u47, u48, u49, u50, u51, u52, u53, u54, u55, u56, u57, u58, u59, u60, u61, u62, u63, u64, u65, u66, undef], defers := marks Ds } ∧
    kv = (k : Int) ∧ k ≤ n ∧ PaJ w V ⟨f, H, (L.take k).flatMap fun i => itemsP es i f⟩ wr ∧ RowAt wr fb 3 (L.map fun i : Nat => Value.int .i64 (i : Int)).toArray ∧ MarksAt (w.heap.size + 2) Ds wr
/-- what lasts within the range over items. -/
structure ItJ (w : World) (V : Value) (R : RawT) (fb : Nat) (L Ds : List Nat) (W : World) : Prop where
  J : PaJ w V R W
  rr : RowAt W fb 3 (L.map fun i : Nat => Value.int .i64 (i : Int)).toArray
  ms : MarksAt (w.heap.size + 2) Ds W
theorem ItJ.up {w : World} {V : Value} {R : RawT} {fb : Nat} {L Ds : List Nat} {W W' : World} (h : ItJ w V R fb L Ds W) (hb : Below W.heap.size W W') : ItJ w V R fb L Ds W' := ⟨h.J.up hb, h.rr.below hb h.rr.lt, h.ms.up hb⟩
theorem ItJ.turn {w : World} {V : Value} {R : RawT} {fb : Nat} {L Ds : List Nat} {B : Nat} (hB : w.heap.size + 2 ≤ B) (hD : ∀ D ∈ Ds, D < B) {X Y : World} (h : ItJ w V R fb L Ds X) (ht : Turns NoMu B X Y) : ItJ w V R fb L Ds Y := ⟨h.J.turn hB ht, h.rr.turnC ht, marks_turns hD h.ms ht⟩
def ItI (es : List Evt) (w : World) (V : Value) (f : Int) (H : Itm) (its : List Itm) (fb : Nat) (L Ds : List Nat) (pre : List Nat) (W : World) : Prop := ItJ w V ⟨f, H, its ++ pre.map (itK es f)⟩ fb L Ds W
theorem feedR_no {es : List Evt} {f : Int} (hk : kindP es = f) (hf : f ≠ 0) (h : (namedR es 0 chanN).head? = none) : feedR es = ⟨f, Itm.none, [0].flatMap fun i => itemsP es i f⟩ := by
  unfold feedR
  rw [hk, if_neg hf, h]
  simp
theorem feedR_ch {es : List Evt} {f : Int} {x : Nat} (hk : kindP es = f) (hf : f ≠ 0) (h : (namedR es 0 chanN).head? = some x) : feedR es = ⟨f, foundP (partP es x) headF, (chFrom f x).flatMap fun i => itemsP es i f⟩ := by
  unfold feedR chFrom
  rw [hk, if_neg hf, h]
  by_cases h1 : f = 1
  · rw [if_pos h1]; simp [h1]
  · rw [if_neg h1]; simp [h1]
theorem itemsP_len (es : List Evt) (i : Nat) (f : Int) : (itemsP es i f).length ≤ es.length := by
  unfold itemsP
  rw [List.length_map]
  exact namedR_len es i itN
theorem items_len (es : List Evt) (f : Int) : ∀ L : List Nat, (L.flatMap fun i => itemsP es i f).length ≤ L.length * es.length
  | [] => by simp
  | i :: L => by
    rw [List.flatMap_cons, List.length_append, List.length_cons, Nat.succ_mul]
    have h1 := itemsP_len es i f
    have h2 := items_len es f L
    omega
theorem raw_keepsO (W : World) (b : Nat) (u0 u1 u2 u3 u4 u5 u6 u7 u8 : Value) : KeepsOthers W (World.setRaw W b u0 u1 u2 u3 u4 u5 u6 u7 u8) := by
  unfold World.setRaw
  exact ((((((((KeepsOthers.setCell _ _ _).trans (KeepsOthers.setCell _ _ _)).trans (KeepsOthers.setCell _ _ _)).trans (KeepsOthers.setCell _ _ _)).trans (KeepsOthers.setCell _ _ _)).trans (KeepsOthers.setCell _ _ _)).trans (KeepsOthers.setCell _ _ _)).trans (KeepsOthers.setCell _ _ _)).trans (KeepsOthers.setCell _ _ _)
theorem inBlock_of {k : Nat} {X : Exit → Act → World → Prop} {e : Exit} {a : Act} {w : World} (he : e = .normal ∨ e = .exit k) (h : X .normal a w) : Exit.inBlock k X e a w := by
  rcases he with rfl | rfl
  · exact h
  · simpa [Exit.inBlock] using h
attribute [local go_sem ↓] app_veil
set_option maxRecDepth 100000 in
set_option maxHeartbeats 16000000 in
theorem rss_Parse (B : Nat) (es : List Evt) (v : Value) (w : World) (hE : REv B es v w) :
    Calls Try.prog 48 #[v] w fun r w' => PaC w' w es r := by
  refine (callsIn_wide (n := 6)).1 ?_
  refine callsIn_of_wp_marks Try.func48 rfl trivial ?_ rfl
  simp only [Try.ntmps48, List.size_toArray, List.length_cons, List.length_nil, Nat.reduceAdd, Nat.reduceSub, Array.replicate_succ, Array.replicate_zero, List.push_toArray, List.append_toArray, List.nil_append, List.cons_append]
  obtain ⟨avs, ⟨a, cap, rfl, -⟩, -⟩ := id hE.f.r
  obtain ⟨nn, hnn⟩ : ∃ n, es.length = n := ⟨_, rfl⟩
  rw [hnn] at hE ⊢
  have HNN := Lib.hid hnn
  clear hnn
  have J0 : PaJ w (.slice a nn cap) rawNone ((w.alloc (.cells #[.slice a nn cap] 22)).alloc (.cells #[.int .i8 0, .string ⟨#[]⟩, .string ⟨#[]⟩, .string ⟨#[]⟩, .string ⟨#[]⟩, .string ⟨#[]⟩, .string ⟨#[]⟩, .int .i8 0, .slice none 0 0] 50)) := by
    have h1 := RowAt.new (w.alloc (.cells #[.slice a nn cap] 22)) #[.int .i8 0, .string ⟨#[]⟩, .string ⟨#[]⟩, .string ⟨#[]⟩, .string ⟨#[]⟩, .string ⟨#[]⟩, .string ⟨#[]⟩, .int .i8 0, .slice none 0 0] 50
    rw [World.size_alloc] at h1
    exact ⟨(Boxed.new w _ _).alloc _, ⟨_, h1, OwnX.nil _ _⟩, ((Below.refl w.heap.size w).alloc (Nat.le_refl _) _).alloc (by simp) _, by simp⟩
  generalize hw1 : (w.alloc (.cells #[.slice a nn cap] 22)).alloc (.cells #[.int .i8 0, .string ⟨#[]⟩, .string ⟨#[]⟩, .string ⟨#[]⟩, .string ⟨#[]⟩, .string ⟨#[]⟩, .string ⟨#[]⟩, .int .i8 0, .slice none 0 0] 50) = w1 at J0
  have HW1 := Lib.hid hw1
  clear hw1
  have FE := Lib.hid (fun (u : World) (hu : Below w.heap.size w u) => hE.below hu)
  have HWh := by
    have hE1 := FE.out _ J0.be
    exact events_Whole B es (.slice a nn cap) w1 hE1.f.r hE1.f.hB (by have := hE1.f.n; omega) hE1.f.z2
  have c0 := J0.bl.cell
  rw [← HW1.out] at c0
  clear hE
  cases hG : growP es with
  | none =>
    rw [hG] at HWh
    have HWH := Lib.hid HWh
    clear HWh
    gi_wp2_with fail
    rw [HW1.out]
    refine ⟨trivial, ?_⟩
    refine (callsIn_wide.2 HWH.out).mono ?_
    rintro r w2 ⟨rfl, hb2⟩
    rw [show (none : Option Gr).isSome = false from rfl]
    have HKZ := Lib.hid (kindP_none hG)
    have J2 := J0.up hb2
    clear hb2
    obtain ⟨v0, hrw, hown⟩ := J2.rs
    obtain ⟨y1, y2, y3, rfl⟩ := hown.form
    have k0 : w2.cell? ⟨w.heap.size + 1, 0, none⟩ = some (.int .i8 0) := hrw.blk.cell 0 rfl
    have k1 : w2.cell? ⟨w.heap.size + 1, 1, none⟩ = some (.string ⟨#[]⟩) := hrw.blk.cell 1 rfl
    have k2 : w2.cell? ⟨w.heap.size + 1, 2, none⟩ = some (.string ⟨#[]⟩) := hrw.blk.cell 2 rfl
    have k3 : w2.cell? ⟨w.heap.size + 1, 3, none⟩ = some (.string ⟨#[]⟩) := hrw.blk.cell 3 rfl
    have k4 : w2.cell? ⟨w.heap.size + 1, 4, none⟩ = some (.string ⟨#[]⟩) := hrw.blk.cell 4 rfl
    have k5 : w2.cell? ⟨w.heap.size + 1, 5, none⟩ = some (.string ⟨#[]⟩) := hrw.blk.cell 5 rfl
    have k6 : w2.cell? ⟨w.heap.size + 1, 6, none⟩ = some (.string ⟨#[]⟩) := hrw.blk.cell 6 rfl
    have k7 : w2.cell? ⟨w.heap.size + 1, 7, none⟩ = some (.int .i8 0) := hrw.blk.cell 7 rfl
    have k8 : w2.cell? ⟨w.heap.size + 1, 8, none⟩ = some (.slice y1 y2 y3) := hrw.blk.cell 8 rfl
    have kf0 : w2.frozen? ⟨w.heap.size + 1, 0, none⟩ = false := hrw.blk.free 0
    have kf1 : w2.frozen? ⟨w.heap.size + 1, 1, none⟩ = false := hrw.blk.free 1
    have kf2 : w2.frozen? ⟨w.heap.size + 1, 2, none⟩ = false := hrw.blk.free 2
    have kf3 : w2.frozen? ⟨w.heap.size + 1, 3, none⟩ = false := hrw.blk.free 3
    have kf4 : w2.frozen? ⟨w.heap.size + 1, 4, none⟩ = false := hrw.blk.free 4
    have kf5 : w2.frozen? ⟨w.heap.size + 1, 5, none⟩ = false := hrw.blk.free 5
    have kf6 : w2.frozen? ⟨w.heap.size + 1, 6, none⟩ = false := hrw.blk.free 6
    have kf7 : w2.frozen? ⟨w.heap.size + 1, 7, none⟩ = false := hrw.blk.free 7
    have kf8 : w2.frozen? ⟨w.heap.size + 1, 8, none⟩ = false := hrw.blk.free 8
    have HBE := Lib.hid J2.be
    have HRW := Lib.hid hrw
    have HOWN := Lib.hid hown
    clear J0 J2 hrw hown HWH
    gi_wp2_with (refine ⟨trivial, ?_⟩; apply_assumption -exfalso -symm)
    change ∃ u, (results _ _).run _ (World.setRaw w2 (w.heap.size + 1) (.int .i8 0) (.string ⟨#[]⟩) (.string ⟨#[]⟩) (.string ⟨#[]⟩) (.string ⟨#[]⟩) (.string ⟨#[]⟩) (.string ⟨#[]⟩) (.int .i8 0) (.slice y1 y2 y3)) = .ok u (World.setRaw w2 (w.heap.size + 1) (.int .i8 0) (.string ⟨#[]⟩) (.string ⟨#[]⟩) (.string ⟨#[]⟩) (.string ⟨#[]⟩) (.string ⟨#[]⟩) (.string ⟨#[]⟩) (.int .i8 0) (.slice y1 y2 y3)) ∧ PaC _ _ _ _
    unfold PaC
    rw [if_pos HKZ.out, feedR_none HKZ.out]
    refine ⟨_, results_cell2 rfl _ _ _ _ _ rfl (raw_set HRW.out _ _ _ _ _ _ _ _ _).blk Try.underlying50 rfl (by kernel_rfl), _, rfl, ?_, raw_below HBE.out (Nat.le_succ _) _ _ _ _ _ _ _ _ _⟩
    exact ⟨.slice y1 y2 y3, rfl, raw_own HOWN.out (Nat.lt_succ_self _) _ _ _ _ _ _ _ _ _⟩
  | some g =>
    rw [hG] at HWh
    obtain ⟨T, hes, hwf, hT⟩ := whole_tree hG
    have hy := hT.get
    have HES := Lib.hid hes
    clear hes
    have HWH := Lib.hid HWh
    clear HWh
    obtain ⟨b, off, cap', av, hv, hbB, e0, e1, e2, -⟩ := (FE.out _ J0.be).f.r.get (Below.refl _ w1) (FE.out _ J0.be).f.hB 0 _ hy
    cases hv
    have EC := Lib.hid (fun (u : World) (hu : Below w.heap.size w u) => (show u.cell? ⟨b, off + 1, none⟩ = some (.string T.1.1) ∧ u.cell? ⟨b, off + 1 + 1, none⟩ = some (.string T.1.2) from by
      obtain ⟨b', off', cap', av, hv, hbB, e0, e1, e2, -⟩ := (FE.out u hu).f.r.get (Below.refl _ u) (FE.out u hu).f.hB 0 _ hy
      cases hv
      exact ⟨by rw [show off + 1 = off + 0 * 5 + 1 by omega]; exact e1, by rw [show off + 1 + 1 = off + 0 * 5 + 2 by omega]; exact e2⟩))
    have hn0 : (0 : Int) < (es.length : Int) := by have := (List.getElem?_eq_some_iff.1 hy).1; omega
    have hkp := kindP_some hG hy
    clear e0 e1 e2
    gi_wp2_with fail
    rw [HW1.out]
    refine ⟨trivial, ?_⟩
    refine (callsIn_wide.2 HWH.out).mono ?_
    rintro r w2 ⟨rfl, hb2⟩
    rw [show (some g : Option Gr).isSome = true from rfl]
    have J2 := J0.up hb2
    have d0 := J2.bl.cell
    have d1 := (EC.out w2 J2.be).1
    have d2 := (EC.out w2 J2.be).2
    clear c0 HW1 hb2 J0 HWH
    gi_wp2_with fail
    refine ⟨trivial, ?_⟩
    refine (callsIn_wide.2 (rss_Kind T.1 w2)).mono ?_
    rintro r w3 ⟨rfl, hb3⟩
    have J3 := J2.up hb3
    clear d0 d1 d2 J2 hb3
    obtain ⟨f, hf⟩ : ∃ f, kindR T.1 = f := ⟨_, rfl⟩
    rw [show (evS T.1 T.2.1).n = T.1 from rfl, hf] at hkp
    have HK2 := Lib.hid hf
    rw [hf]
    have hfo := kindR_or T.1
    rw [hf] at hfo
    clear hf
    by_cases hf0 : f = 0
    · subst hf0
      have HKZ := Lib.hid hkp
      obtain ⟨v0, hrw, hown⟩ := J3.rs
      obtain ⟨y1, y2, y3, rfl⟩ := hown.form
      have k0 : w3.cell? ⟨w.heap.size + 1, 0, none⟩ = some (.int .i8 0) := hrw.blk.cell 0 rfl
      have k1 : w3.cell? ⟨w.heap.size + 1, 1, none⟩ = some (.string ⟨#[]⟩) := hrw.blk.cell 1 rfl
      have k2 : w3.cell? ⟨w.heap.size + 1, 2, none⟩ = some (.string ⟨#[]⟩) := hrw.blk.cell 2 rfl
      have k3 : w3.cell? ⟨w.heap.size + 1, 3, none⟩ = some (.string ⟨#[]⟩) := hrw.blk.cell 3 rfl
      have k4 : w3.cell? ⟨w.heap.size + 1, 4, none⟩ = some (.string ⟨#[]⟩) := hrw.blk.cell 4 rfl
      have k5 : w3.cell? ⟨w.heap.size + 1, 5, none⟩ = some (.string ⟨#[]⟩) := hrw.blk.cell 5 rfl
      have k6 : w3.cell? ⟨w.heap.size + 1, 6, none⟩ = some (.string ⟨#[]⟩) := hrw.blk.cell 6 rfl
      have k7 : w3.cell? ⟨w.heap.size + 1, 7, none⟩ = some (.int .i8 0) := hrw.blk.cell 7 rfl
      have k8 : w3.cell? ⟨w.heap.size + 1, 8, none⟩ = some (.slice y1 y2 y3) := hrw.blk.cell 8 rfl
      have kf0 : w3.frozen? ⟨w.heap.size + 1, 0, none⟩ = false := hrw.blk.free 0
      have kf1 : w3.frozen? ⟨w.heap.size + 1, 1, none⟩ = false := hrw.blk.free 1
      have kf2 : w3.frozen? ⟨w.heap.size + 1, 2, none⟩ = false := hrw.blk.free 2
      have kf3 : w3.frozen? ⟨w.heap.size + 1, 3, none⟩ = false := hrw.blk.free 3
      have kf4 : w3.frozen? ⟨w.heap.size + 1, 4, none⟩ = false := hrw.blk.free 4
      have kf5 : w3.frozen? ⟨w.heap.size + 1, 5, none⟩ = false := hrw.blk.free 5
      have kf6 : w3.frozen? ⟨w.heap.size + 1, 6, none⟩ = false := hrw.blk.free 6
      have kf7 : w3.frozen? ⟨w.heap.size + 1, 7, none⟩ = false := hrw.blk.free 7
      have kf8 : w3.frozen? ⟨w.heap.size + 1, 8, none⟩ = false := hrw.blk.free 8
      have HBE := Lib.hid J3.be
      have HRW := Lib.hid hrw
      have HOWN := Lib.hid hown
      clear J3 hrw hown
      gi_wp2_with fail
      change ∃ u, (results _ _).run _ (World.setRaw w3 (w.heap.size + 1) (.int .i8 0) (.string ⟨#[]⟩) (.string ⟨#[]⟩) (.string ⟨#[]⟩) (.string ⟨#[]⟩) (.string ⟨#[]⟩) (.string ⟨#[]⟩) (.int .i8 0) (.slice y1 y2 y3)) = .ok u (World.setRaw w3 (w.heap.size + 1) (.int .i8 0) (.string ⟨#[]⟩) (.string ⟨#[]⟩) (.string ⟨#[]⟩) (.string ⟨#[]⟩) (.string ⟨#[]⟩) (.string ⟨#[]⟩) (.int .i8 0) (.slice y1 y2 y3)) ∧ PaC _ _ _ _
      unfold PaC
      rw [if_pos HKZ.out, feedR_none HKZ.out]
      refine ⟨_, results_cell2 rfl _ _ _ _ _ rfl (raw_set HRW.out _ _ _ _ _ _ _ _ _).blk Try.underlying50 rfl (by kernel_rfl), _, rfl, ?_, raw_below HBE.out (Nat.le_succ _) _ _ _ _ _ _ _ _ _⟩
      exact ⟨.slice y1 y2 y3, rfl, raw_own HOWN.out (Nat.lt_succ_self _) _ _ _ _ _ _ _ _ _⟩
    · have hfz : (f == 0) = false := beq_eq_false_iff_ne.2 hf0
      have d0 := J3.bl.cell
      have d1 := (EC.out w3 J3.be).1
      have d2 := (EC.out w3 J3.be).2
      gi_wp2_with fail
      refine ⟨trivial, ?_⟩
      refine (callsIn_wide.2 (rss_Kind T.1 w3)).mono ?_
      rintro r w4 ⟨rfl, hb4⟩
      have J4 := J3.up hb4
      rw [HK2.out]
      obtain ⟨v0, hrw, hown⟩ := J4.rs
      have k0 : w4.cell? ⟨w.heap.size + 1, 0, none⟩ = some (.int .i8 0) := hrw.blk.cell 0 rfl
      have kf0 := hrw.blk.free 0
      have J5 := J4.fmt f
      have l5 := J5.bl.cell
      clear d0 d1 d2 J3 hb4 hrw hown
      have hb6 : Below (w4.setCell ⟨w.heap.size + 1, 0, none⟩ (.int .i8 f)).heap.size (w4.setCell ⟨w.heap.size + 1, 0, none⟩ (.int .i8 f)) (((w4.setCell ⟨w.heap.size + 1, 0, none⟩ (.int .i8 f)).alloc (.cells #[.int .i64 0] 3)).alloc (.cells #[.slice (some ⟨w4.heap.size, 0, none⟩) 1 1] 31)) := ((Below.refl _ _).alloc (Nat.le_refl _) _).alloc (by simp) _
      have J6 := J5.up hb6
      have F6 : FrAt (((w4.setCell ⟨w.heap.size + 1, 0, none⟩ (.int .i8 f)).alloc (.cells #[.int .i64 0] 3)).alloc (.cells #[.slice (some ⟨w4.heap.size, 0, none⟩) 1 1] 31)) (w.heap.size + 2) (w4.heap.size + 1) [0] := by
        have h1 := RowAt.new (w4.setCell ⟨w.heap.size + 1, 0, none⟩ (.int .i8 f)) #[.int .i64 0] 3
        have h2 := Boxed.new ((w4.setCell ⟨w.heap.size + 1, 0, none⟩ (.int .i8 f)).alloc (.cells #[.int .i64 0] 3)) 31 (.slice (some ⟨w4.heap.size, 0, none⟩) 1 1)
        simp only [World.size_alloc, World.size_setCell] at h1 h2
        exact ⟨w4.heap.size, h2, h1.alloc _, by have := J4.sz; omega⟩
      have hz6 : w.heap.size + 2 ≤ w4.heap.size + 1 := by have := J4.sz; omega
      have l6 := J6.bl.cell
      clear l5 J5 hb6 J4
      gi_wp2_with fail
      refine ⟨trivial, ?_⟩
      generalize ((w4.setCell ⟨w.heap.size + 1, 0, none⟩ (.int .i8 f)).alloc (.cells #[.int .i64 0] 3)).alloc (.cells #[.slice (some ⟨w4.heap.size, 0, none⟩) 1 1] 31) = w6 at J6 F6 ⊢
      obtain ⟨fx, hfx⟩ : ∃ x, w4.heap.size + 1 = x := ⟨_, rfl⟩
      rw [hfx] at F6 hz6 ⊢
      clear l6 hfx k0 kf0
      refine (rss_kids_in Fence.wide _ trivial rfl _ _ _ _ chanN _).mono ?_
      rintro r w7 ⟨rfl, rfl⟩
      have hT7 : RkAt w6.heap.size (w6.heap.size + 1) (w6.heap.size + 2) (.slice (some ⟨b, off, none⟩) es.length cap) 0 chanN (((w6.alloc (.cells #[.slice (some ⟨b, off, none⟩) es.length cap] 22)).alloc (.cells #[.int .i64 0] 3)).alloc (.cells #[.string chanN.1, .string chanN.2] 24)) := by
        have h2 := Boxed.new (w6.alloc (.cells #[.slice (some ⟨b, off, none⟩) es.length cap] 22)) 3 (.int .i64 0)
        have h3 := RowAt.new ((w6.alloc (.cells #[.slice (some ⟨b, off, none⟩) es.length cap] 22)).alloc (.cells #[.int .i64 0] 3)) #[.string chanN.1, .string chanN.2] 24
        simp only [World.size_alloc] at h2 h3
        exact ⟨((Boxed.new w6 _ _).alloc _).alloc _, h2.alloc _, h3⟩
      have hb7 : Below w6.heap.size w6 (((w6.alloc (.cells #[.slice (some ⟨b, off, none⟩) es.length cap] 22)).alloc (.cells #[.int .i64 0] 3)).alloc (.cells #[.string chanN.1, .string chanN.2] 24)) := (((Below.refl w6.heap.size w6).alloc (Nat.le_refl _) _).alloc (by simp) _).alloc (by simp; omega) _
      have C7 : ChJ w (.slice (some ⟨b, off, none⟩) es.length cap) ⟨f, Itm.none, []⟩ fx [0] (((w6.alloc (.cells #[.slice (some ⟨b, off, none⟩) es.length cap] 22)).alloc (.cells #[.int .i64 0] 3)).alloc (.cells #[.string chanN.1, .string chanN.2] 24)) := (ChJ.mk J6 F6).up hb7
      have hs7 : w6.heap.size + 3 ≤ (((w6.alloc (.cells #[.slice (some ⟨b, off, none⟩) es.length cap] 22)).alloc (.cells #[.int .i64 0] 3)).alloc (.cells #[.string chanN.1, .string chanN.2] 24)).heap.size := by simp
      have hs6 := J6.sz
      obtain ⟨w7, hw7⟩ : ∃ x, (((w6.alloc (.cells #[.slice (some ⟨b, off, none⟩) es.length cap] 22)).alloc (.cells #[.int .i64 0] 3)).alloc (.cells #[.string chanN.1, .string chanN.2] 24)) = x := ⟨_, rfl⟩
      rw [hw7] at hT7 C7 hs7 ⊢
      clear hw7 hb7 J6 F6
      have hE7 := FE.out _ C7.J.be
      obtain ⟨q, hq⟩ : ∃ q, w6.heap.size = q := ⟨_, rfl⟩
      rw [hq] at hT7 hs7 hs6 ⊢
      obtain ⟨fb0, hfb0⟩ : ∃ q, w4.heap.size = q := ⟨_, rfl⟩
      rw [hfb0]
      clear hq hfb0
      have HG := Lib.hid hG
      have HON := Lib.hid hT
      have HFO := Lib.hid hfo
      clear hG hT hy hfo
      gi_wp2_with fail
      refine Code.wpIn_mono (Q := (fun e a' W => (e = .normal ∨ e = .exit 0) ∧ ∃ (D : Nat) (H : Itm) (L : List Nat), a' = { tmps := #[.slice (some ⟨b, off, none⟩) es.length cap, .pointer (some ⟨w.heap.size, 0, none⟩), .pointer (some ⟨w.heap.size + 1, 0, none⟩), .int .i64 0, .pointer (some ⟨fx, 0, none⟩), undef, undef, undef, undef, .slice (some ⟨b, off, none⟩) es.length cap, .bool true, .bool false, .bool false, .slice (some ⟨b, off, none⟩) es.length cap, .pointer (some ⟨b, off, none⟩), .pointer (some ⟨b, off + 1, none⟩), .agg #[.string T.1.1, .string T.1.2], .int .i8 f, .bool false, .bool false, undef, .slice (some ⟨b, off, none⟩) es.length cap, .pointer (some ⟨b, off, none⟩), .pointer (some ⟨b, off + 1, none⟩), .agg #[.string T.1.1, .string T.1.2], .int .i8 f, .pointer (some ⟨w.heap.size + 1, 0, none⟩), .slice (some ⟨fb0, 0, none⟩) 1 1, .slice (some ⟨b, off, none⟩) es.length cap, .agg #[.string ⟨#[]⟩, .string ⟨#[99, 104, 97, 110, 110, 101, 108]⟩], .func (.func 114) #[] #[.pointer (some ⟨q, 0, none⟩), .pointer (some ⟨q + 1, 0, none⟩), .pointer (some ⟨q + 2, 0, none⟩)], undef, undef, undef, undef, undef, undef, undef, undef, undef, undef, undef, undef, undef, undef, undef, undef, undef, undef, undef, undef, undef, undef, undef, undef, undef, undef, undef, undef, undef, undef, undef, undef, undef, undef, undef, undef, undef], defers := [{ target := .collected D, args := #[] }] } ∧ w7.heap.size ≤ D ∧ W.heap[D]? = some (.deferred (some [])) ∧ ChJ w (.slice (some ⟨b, off, none⟩) es.length cap) ⟨f, H, []⟩ fx L W ∧ feedR es = ⟨f, H, L.flatMap fun i => itemsP es i f⟩ ∧ L.length ≤ 2 ∧ ∀ i ∈ L, ∃ U, OnT es (endO g) i U)) ?after ?range
      case range =>
        refine wpIn_rangeFunc_ownP NoMu rfl (by omega) (gf := 114) (lb := #[.pointer (some ⟨q, 0, none⟩), .pointer (some ⟨q + 1, 0, none⟩), .pointer (some ⟨q + 2, 0, none⟩)]) rfl trivial (enters_of Try.func114 (by kernel_rfl) rfl)
          (rkids_stops B es _ (by omega) q (q + 1) (q + 2) _ 0 chanN (by have := hE7.f.n; omega) hE7.f.z2 w7 hE7.f.r hE7.f.hB hT7) (fun h k => ⟨h.1.trans k.1, h.2.trans k.2⟩) (fun W l o o' h1 h2 h3 _ => ⟨KeepsT.putObj h2 h3, below_putObj (Nat.le_trans hE7.f.hB h1) h2 h3⟩) (Below.refl _ _) (fun _ => rfl)
          (ChI w (.slice (some ⟨b, off, none⟩) es.length cap) f fx) (ChX es w (.slice (some ⟨b, off, none⟩) es.length cap) f fx) (fun _ _ _ h ht => ⟨h.1, h.2.turn (by omega) ht⟩)
          (fun c pre X Y h ht => by obtain ⟨hc, x, h1, h2⟩ := h; exact ⟨hc, x, h1, h2.turn (by omega) ht⟩)
          ⟨rfl, C7⟩
          (fun x a' W => a' = { tmps := #[.slice (some ⟨b, off, none⟩) es.length cap, .pointer (some ⟨w.heap.size, 0, none⟩), .pointer (some ⟨w.heap.size + 1, 0, none⟩), .int .i64 0, .pointer (some ⟨fx, 0, none⟩), .int .i64 (x : Nat), undef, undef, undef, .slice (some ⟨b, off, none⟩) es.length cap, .bool true, .bool false, .bool false, .slice (some ⟨b, off, none⟩) es.length cap, .pointer (some ⟨b, off, none⟩), .pointer (some ⟨b, off + 1, none⟩), .agg #[.string T.1.1, .string T.1.2], .int .i8 f, .bool false, .bool false, undef, .slice (some ⟨b, off, none⟩) es.length cap, .pointer (some ⟨b, off, none⟩), .pointer (some ⟨b, off + 1, none⟩), .agg #[.string T.1.1, .string T.1.2], .int .i8 f, .pointer (some ⟨w.heap.size + 1, 0, none⟩), .slice (some ⟨fb0, 0, none⟩) 1 1, .slice (some ⟨b, off, none⟩) es.length cap, .agg #[.string ⟨#[]⟩, .string ⟨#[99, 104, 97, 110, 110, 101, 108]⟩], .func (.func 114) #[] #[.pointer (some ⟨q, 0, none⟩), .pointer (some ⟨q + 1, 0, none⟩), .pointer (some ⟨q + 2, 0, none⟩)], .int .i64 (x : Nat), undef, undef, undef, undef, undef, undef, undef, undef, undef, undef, undef, undef, undef, undef, undef, undef, undef, undef, undef, undef, undef, undef, undef, undef, undef, undef, undef, undef, undef, undef, undef, undef, undef, undef, undef, undef], defers := [] })
          (fun x a' _ _ _ _ h _ _ => h) ?assign ?body ?done ?stop
        case assign =>
          rintro l pre x W K hI hK
          gi_wp2
          exact hK _ _ (KeepsFrom.refl _ _) ⟨⟨Nat.le_refl _, fun k c T fz _ _ => rfl⟩, Below.refl _ _⟩ hI rfl
        case body =>
          rintro l pre x a' W hl ⟨rfl, C⟩ rfl hsp hlen
          have hxk : x ∈ namedR es 0 chanN := hsp.subset (List.mem_append_right _ (List.mem_singleton.2 rfl))
          obtain ⟨U, hUk, hU⟩ := kid_on HG.out HON.out (namedR_mem hxk).2.2
          have HPT := Lib.hid (hU.part HG.out)
          obtain ⟨H, hH⟩ : ∃ H, foundP (flT U) headF = H := ⟨_, rfl⟩
          have HPC := Lib.hid (fun (u : World) (hu : Below w.heap.size w u) => rss_partT (FE.out u hu) HG.out hU)
          have HFC := Lib.hid (fun (u : World) (hu : Below w.heap.size w u) (fv : Value) (base : Nat) (hF : FormAt u fv headF base) => (show Calls Try.prog 84 #[fv, .slice (some ⟨b, off + x * 5, none⟩) (U.2.2.sz + 2) (cap - x)] u fun r w' => r = .returned (.agg #[.string H.id, .string H.title, .string H.link, .string H.author, .string H.content, .string H.date, .int .i8 H.kind]) ∧ Below u.heap.size u w' by
            have h := rss_found B (flT U) _ headF fv base u ((FE.out u hu).part HG.out hU) hF (by decide) (by decide) (by decide) (by decide)
            rw [hH] at h
            exact h))
          have CD := C.up (Below.refl _ W).drew
          have d0 := CD.J.bl.cell
          have HCD := Lib.hid CD
          have HCW := Lib.hid C
          have HHH := Lib.hid hH
          clear hT7 C7 hE7 hU hUk hxk hsp C CD hH
          gi_wp2_with fail
          gi_region_with (first
            | (refine ⟨trivial, ?_⟩; gi_at_call 83; refine (CallsIn.inRound l (callsIn_wide.2 (rss_head _))).mono ?_; rintro r wh ⟨fv, rfl, hF, hbh⟩; have CH := HCD.out.up hbh; have d1 := CH.J.bl.cell)
            | (refine ⟨trivial, ?_⟩; gi_at_call 85; refine (CallsIn.inRound l (callsIn_wide.2 (HPC.out wh CH.J.be))).mono ?_; rintro r wp ⟨rfl, hbp⟩; have CP := CH.up hbp; have hFp := hF.below hbp)
            | (refine ⟨trivial, ?_⟩; gi_at_call 84; refine (CallsIn.inRound l (callsIn_wide.2 (HFC.out wp CP.J.be _ _ hFp))).mono ?_; rintro r wf ⟨rfl, hbf⟩; have CF := CP.up hbf; obtain ⟨vf, hrf, hof⟩ := CF.J.rs; have k0 : wf.cell? ⟨w.heap.size + 1, 0, none⟩ = some (.int .i8 f) := hrf.blk.cell 0 rfl; have kf0 := hrf.blk.free 0; have k1 : wf.cell? ⟨w.heap.size + 1, 1, none⟩ = some (.string ⟨#[]⟩) := hrf.blk.cell 1 rfl; have kf1 := hrf.blk.free 1; have k2 : wf.cell? ⟨w.heap.size + 1, 2, none⟩ = some (.string ⟨#[]⟩) := hrf.blk.cell 2 rfl; have kf2 := hrf.blk.free 2; have k3 : wf.cell? ⟨w.heap.size + 1, 3, none⟩ = some (.string ⟨#[]⟩) := hrf.blk.cell 3 rfl; have kf3 := hrf.blk.free 3; have k4 : wf.cell? ⟨w.heap.size + 1, 4, none⟩ = some (.string ⟨#[]⟩) := hrf.blk.cell 4 rfl; have kf4 := hrf.blk.free 4; have k5 : wf.cell? ⟨w.heap.size + 1, 5, none⟩ = some (.string ⟨#[]⟩) := hrf.blk.cell 5 rfl; have kf5 := hrf.blk.free 5; have k6 : wf.cell? ⟨w.heap.size + 1, 6, none⟩ = some (.string ⟨#[]⟩) := hrf.blk.cell 6 rfl; have kf6 := hrf.blk.free 6; have k7 : wf.cell? ⟨w.heap.size + 1, 7, none⟩ = some (.int .i8 0) := hrf.blk.cell 7 rfl; have kf7 := hrf.blk.free 7))
          all_goals
            rw [show (((((((wf.setCell ⟨w.heap.size + 1, 1, none⟩ (.string H.id)).setCell ⟨w.heap.size + 1, 2, none⟩ (.string H.title)).setCell ⟨w.heap.size + 1, 3, none⟩ (.string H.link)).setCell ⟨w.heap.size + 1, 4, none⟩ (.string H.author)).setCell ⟨w.heap.size + 1, 5, none⟩ (.string H.content)).setCell ⟨w.heap.size + 1, 6, none⟩ (.string H.date)).setCell ⟨w.heap.size + 1, 7, none⟩ (.int .i8 H.kind)) = World.setHd wf (w.heap.size + 1) H from rfl]
            have CG : ChJ w (.slice (some ⟨b, off, none⟩) es.length cap) ⟨f, H, []⟩ fx [0] (World.setHd wf (w.heap.size + 1) H) := ⟨CF.J.hd H, CF.F.other (fun b' hb' T' cs' hr' => hd_other hr' (by omega) H) hz6⟩
            have KG : KeepsOthers W (World.setHd wf (w.heap.size + 1) H) := (((keepsOthers_belowQ (Below.refl _ W).drew).trans (keepsOthers_belowQ hbh)).trans ((keepsOthers_belowQ hbp).trans (keepsOthers_belowQ hbf))).trans (hd_keepsO _ _ _)
            generalize World.setHd wf (w.heap.size + 1) H = w9 at CG KG ⊢
            obtain ⟨v9, r9, o9⟩ := CG.J.rs
            have m0 : w9.cell? ⟨w.heap.size + 1, 0, none⟩ = some (.int .i8 f) := r9.blk.cell 0 rfl
            obtain ⟨fb9, bx9, rr9, lo9⟩ := id CG.F
            have mx := bx9.cell
            have mf := bx9.frozen
            have HP2 := HPT.out
            have HH2 := HHH.out
            have HCG := Lib.hid CG
            have HKG := Lib.hid KG
            have HBX := Lib.hid bx9
            have HPH := Lib.hid (show foundP (partP es x) headF = H by rw [HPT.out, HHH.out])
            clear hbh hbp hbf CF CG KG CH CP hF hFp hrf hof r9 o9 rr9 HP2 HH2 bx9 HPT HHH
            rcases HFO.out with hh | hh | hh
            · exact absurd hh hf0
            · subst hh
              have CW : ChJ w (.slice (some ⟨b, off, none⟩) es.length cap) ⟨1, H, []⟩ fx [x, 0] ((w9.alloc (.cells #[.int .i64 (x : Int), .int .i64 0] 3)).setCell ⟨fx, 0, none⟩ (.slice (some ⟨w9.heap.size, 0, none⟩) 2 2)) :=
                ⟨(HCG.out.J.up ((Below.refl _ w9).alloc (Nat.le_refl _) _)).setO hz6 (HBX.out.alloc _) _, FrAt.new HCG.out.J.sz HBX.out [x, 0] 2 rfl _ rfl⟩
              have KW : KeepsOthers W ((w9.alloc (.cells #[.int .i64 (x : Int), .int .i64 0] 3)).setCell ⟨fx, 0, none⟩ (.slice (some ⟨w9.heap.size, 0, none⟩) 2 2)) := (HKG.out.trans (KeepsOthers.alloc _ _)).trans (KeepsOthers.setCell _ _ _)
              have HCW2 := Lib.hid CW
              have HKW := Lib.hid KW
              clear CW KW
              have mx2 : (w9.alloc (.cells #[.int .i64 (x : Int), .int .i64 0] 3)).cell? ⟨fx, 0, none⟩ = some _ := (HBX.out.alloc _).cell
              have mf2 : (w9.alloc (.cells #[.int .i64 (x : Int), .int .i64 0] 3)).frozen? ⟨fx, 0, none⟩ = false := (HBX.out.alloc _).frozen
              gi_wp2_with fail
              refine ⟨HKW.out.from _, rfl, x, rfl, ?_⟩
              rw [HPH.out]
              exact HCW2.out
            · subst hh
              gi_wp2_with fail
              refine ⟨HKG.out.from _, rfl, x, rfl, ?_⟩
              rw [HPH.out]
              exact HCG.out
        case done =>
          rintro D ys W hD hys ⟨rfl, C⟩ hK
          exact ⟨.inl rfl, D, Itm.none, [0], rfl, hD, hK, C, feedR_no hkp hf0 (by rw [← hys]; rfl), by decide, fun i hi => ⟨T, by rw [List.mem_singleton.1 hi]; exact HON.out⟩⟩
        case stop =>
          rintro D c pre W hD ht ⟨rfl, x, rfl, C⟩ hK
          have hx : x ∈ namedR es 0 chanN := ht.subset (List.mem_singleton.2 rfl)
          obtain ⟨U, -, hU⟩ := kid_on HG.out HON.out (namedR_mem hx).2.2
          refine wpIn_exit ⟨.inr rfl, D, _, chFrom f x, rfl, hD, hK, C, feedR_ch hkp hf0 (pre_one ht), by unfold chFrom; split <;> simp, fun i hi => ?_⟩
          unfold chFrom at hi
          split at hi
          · rcases List.mem_cons.1 hi with rfl | hi
            · exact ⟨U, hU⟩
            · rw [List.mem_singleton.1 hi]; exact ⟨T, HON.out⟩
          · rw [List.mem_singleton.1 hi]; exact ⟨T, HON.out⟩
      case after =>
        rintro e _ W ⟨he, D, H, L, rfl, hD, hK, CC, HL1, HL2, HL3⟩
        refine inBlock_of he ?_
        clear he
        obtain ⟨fb, bx, rr, lo⟩ := CC.F
        have mx := bx.cell
        have hn9 : es.length ≤ 9999 := hE7.f.n
        obtain ⟨n, hn⟩ : ∃ n, L.length = n := ⟨_, rfl⟩
        have HNL := Lib.hid hn
        rw [hn] at mx HL2
        have M0 : MarksAt (w.heap.size + 2) [D] W := (MarksAt.nil _ _).cons (by simp) (by omega) hK
        have P0 : PaL es (.slice (some ⟨b, off, none⟩) es.length cap) (.pointer (some ⟨b, off, none⟩)) (.pointer (some ⟨b, off + 1, none⟩)) (.agg #[.string T.1.1, .string T.1.2]) (.int .i8 f) (.slice (some ⟨fb0, 0, none⟩) 1 1) (.func (.func 114) #[] #[.pointer (some ⟨q, 0, none⟩), .pointer (some ⟨q + 1, 0, none⟩), .pointer (some ⟨q + 2, 0, none⟩)]) w f H fx fb L n { tmps := #[], defers := [] } W → True := fun _ => trivial
        have HJC := Lib.hid CC.J
        have HRR := Lib.hid rr
        have HM0 := Lib.hid M0
        have HFR := Lib.hid HL1
        have HON2 := Lib.hid HL3
        clear P0 CC bx rr M0 hK HL1 HL3 hn hT7 C7 hE7
        gi_wp2_with fail
        refine wpIn_loop (PaL es (.slice (some ⟨b, off, none⟩) es.length cap) (.pointer (some ⟨b, off, none⟩)) (.pointer (some ⟨b, off + 1, none⟩)) (.agg #[.string T.1.1, .string T.1.2]) (.int .i8 f) (.slice (some ⟨fb0, 0, none⟩) 1 1) (.func (.func 114) #[] #[.pointer (some ⟨q, 0, none⟩), .pointer (some ⟨q + 1, 0, none⟩), .pointer (some ⟨q + 2, 0, none⟩)]) w f H fx fb L n) (fun a' _ => n - (intOf (a'.tmps.getD 45 undef)).toNat) ⟨_, _, _, _, _, _, _, _, _, _, _, _, _, _, _, _, _, _, _, _, _, _, _, 0, 0, [D], rfl, rfl, Nat.zero_le _, HJC.out, HRR.out, HM0.out⟩ ?_
        clear HJC HRR HM0 mx hD
        rintro _ wr ⟨u7, u8, u46, u47, u48, u49, u50, u51, u52, u53, u54, u55, u56, u57, u58, u59, u60, u61, u62, u63, u64, u65, u66, k, kv, Ds, rfl, rfl, hk, J, rr, M⟩
        by_cases hlt : k < n
        · have hd := decide_eq_true (show (k : Int) < (n : Int) by omega)
          obtain ⟨i, hi⟩ : ∃ i, L[k]? = some i := ⟨_, List.getElem?_eq_getElem (by rw [HNL.out]; exact hlt)⟩
          have cI : wr.cell? ⟨fb, k, none⟩ = some (.int .i64 (i : Int)) := rr.blk.cell k (by simp [hi])
          have l0 := J.bl.cell
          gi_wp2_with fail
          refine ⟨trivial, ?_⟩
          refine (rss_kids_in Fence.wide _ trivial rfl _ _ _ _ itN _).mono ?_
          rintro r w8 ⟨rfl, rfl⟩
          have hT8 : RkAt wr.heap.size (wr.heap.size + 1) (wr.heap.size + 2) (.slice (some ⟨b, off, none⟩) es.length cap) (i : Int) itN (((wr.alloc (.cells #[.slice (some ⟨b, off, none⟩) es.length cap] 22)).alloc (.cells #[.int .i64 (i : Int)] 3)).alloc (.cells #[.string itN.1, .string itN.2] 24)) := by
            have h2 := Boxed.new (wr.alloc (.cells #[.slice (some ⟨b, off, none⟩) es.length cap] 22)) 3 (.int .i64 (i : Int))
            have h3 := RowAt.new ((wr.alloc (.cells #[.slice (some ⟨b, off, none⟩) es.length cap] 22)).alloc (.cells #[.int .i64 (i : Int)] 3)) #[.string itN.1, .string itN.2] 24
            simp only [World.size_alloc] at h2 h3
            exact ⟨((Boxed.new wr _ _).alloc _).alloc _, h2.alloc _, h3⟩
          have hb8 : Below wr.heap.size wr (((wr.alloc (.cells #[.slice (some ⟨b, off, none⟩) es.length cap] 22)).alloc (.cells #[.int .i64 (i : Int)] 3)).alloc (.cells #[.string itN.1, .string itN.2] 24)) := (((Below.refl wr.heap.size wr).alloc (Nat.le_refl _) _).alloc (by simp) _).alloc (by simp; omega) _
          have I8 : ItJ w (.slice (some ⟨b, off, none⟩) es.length cap) ⟨f, H, (L.take k).flatMap fun i => itemsP es i f⟩ fb L Ds (((wr.alloc (.cells #[.slice (some ⟨b, off, none⟩) es.length cap] 22)).alloc (.cells #[.int .i64 (i : Int)] 3)).alloc (.cells #[.string itN.1, .string itN.2] 24)) := (ItJ.mk J rr M).up hb8
          have hs8 : wr.heap.size + 3 ≤ (((wr.alloc (.cells #[.slice (some ⟨b, off, none⟩) es.length cap] 22)).alloc (.cells #[.int .i64 (i : Int)] 3)).alloc (.cells #[.string itN.1, .string itN.2] 24)).heap.size := by simp
          have hML := Lib.hid M.lt
          have hsr := J.sz
          obtain ⟨w8, hw8⟩ : ∃ x, (((wr.alloc (.cells #[.slice (some ⟨b, off, none⟩) es.length cap] 22)).alloc (.cells #[.int .i64 (i : Int)] 3)).alloc (.cells #[.string itN.1, .string itN.2] 24)) = x := ⟨_, rfl⟩
          rw [hw8] at hT8 I8 hs8 ⊢
          clear hw8 hb8 J rr M cI l0
          have hE8 := FE.out _ I8.J.be
          obtain ⟨q2, hq2⟩ : ∃ q, wr.heap.size = q := ⟨_, rfl⟩
          rw [hq2] at hT8 hs8 hsr hML ⊢
          clear hq2
          obtain ⟨Ui, hUi⟩ := HON2.out i (List.mem_of_getElem? hi)
          have HUI := Lib.hid hUi
          have hlen := items_len es f (L.take k)
          have hlk : (L.take k).length ≤ 2 := by rw [List.length_take, HNL.out]; omega
          have hits : ((L.take k).flatMap fun i => itemsP es i f).length ≤ 20000 := by
            have h1 : (L.take k).length * es.length ≤ 2 * 9999 := Nat.mul_le_mul hlk hn9
            omega
          have hnx : ((L.take k).flatMap fun i => itemsP es i f) ++ itemsP es i f = (L.take (k + 1)).flatMap fun i => itemsP es i f := by
            rw [List.take_add_one, hi, List.flatMap_append]
            simp
          have HNX := Lib.hid hnx
          obtain ⟨its, hit⟩ : ∃ its, ((L.take k).flatMap fun i => itemsP es i f) = its := ⟨_, rfl⟩
          rw [hit] at I8 hits HNX
          clear hlen hlk hnx hit hUi hi
          gi_wp2_with fail
          refine wpIn_rangeFunc_ownP NoMu rfl (by omega) (gf := 114) (lb := #[.pointer (some ⟨q2, 0, none⟩), .pointer (some ⟨q2 + 1, 0, none⟩), .pointer (some ⟨q2 + 2, 0, none⟩)]) rfl trivial (enters_of Try.func114 (by kernel_rfl) rfl)
            (rkids_stops B es _ (by omega) q2 (q2 + 1) (q2 + 2) _ (i : Int) itN (by have := hE8.f.n; omega) hE8.f.z2 w8 hE8.f.r hE8.f.hB hT8) (fun h k => ⟨h.1.trans k.1, h.2.trans k.2⟩) (fun W l o o' h1 h2 h3 _ => ⟨KeepsT.putObj h2 h3, below_putObj (Nat.le_trans hE8.f.hB h1) h2 h3⟩) (Below.refl _ _) (fun _ => rfl)
            (ItI es w (.slice (some ⟨b, off, none⟩) es.length cap) f H its fb L Ds) (fun _ _ _ => False) (fun _ _ _ h ht => ItJ.turn (by omega) (fun D hD => by have := hML.out D hD; omega) h ht)
            (fun _ _ _ _ h _ => h.elim)
            (show ItJ w (.slice (some ⟨b, off, none⟩) es.length cap) ⟨f, H, its ++ [].map (itK es f)⟩ fb L Ds w8 by rw [List.map_nil, List.append_nil]; exact I8)
            (fun x a' W => a' = { tmps := #[.slice (some ⟨b, off, none⟩) es.length cap, .pointer (some ⟨w.heap.size, 0, none⟩), .pointer (some ⟨w.heap.size + 1, 0, none⟩), .int .i64 0, .pointer (some ⟨fx, 0, none⟩), undef, undef, .int .i64 (i : Int), .int .i64 (x : Nat), .slice (some ⟨b, off, none⟩) es.length cap, .bool true, .bool false, .bool false, .slice (some ⟨b, off, none⟩) es.length cap, .pointer (some ⟨b, off, none⟩), .pointer (some ⟨b, off + 1, none⟩), .agg #[.string T.1.1, .string T.1.2], .int .i8 f, .bool false, .bool false, undef, .slice (some ⟨b, off, none⟩) es.length cap, .pointer (some ⟨b, off, none⟩), .pointer (some ⟨b, off + 1, none⟩), .agg #[.string T.1.1, .string T.1.2], .int .i8 f, .pointer (some ⟨w.heap.size + 1, 0, none⟩), .slice (some ⟨fb0, 0, none⟩) 1 1, .slice (some ⟨b, off, none⟩) es.length cap, .agg #[.string ⟨#[]⟩, .string ⟨#[99, 104, 97, 110, 110, 101, 108]⟩], .func (.func 114) #[] #[.pointer (some ⟨q, 0, none⟩), .pointer (some ⟨q + 1, 0, none⟩), .pointer (some ⟨q + 2, 0, none⟩)], undef, undef, undef, undef, undef, undef, undef, undef, undef, undef, undef, undef, .slice (some ⟨fb, 0, none⟩) n n, .int .i64 n, .int .i64 k, .bool true, .pointer (some ⟨fb, k, none⟩), .int .i64 (i : Int), .slice (some ⟨b, off, none⟩) es.length cap, .int .i64 (i : Int), .agg #[.string ⟨#[]⟩, .string ⟨#[105, 116, 101, 109]⟩], .func (.func 114) #[] #[.pointer (some ⟨q2, 0, none⟩), .pointer (some ⟨q2 + 1, 0, none⟩), .pointer (some ⟨q2 + 2, 0, none⟩)], .int .i64 (x : Nat), u54, u55, u56, u57, u58, u59, u60, u61, u62, u63, u64, u65, u66, undef], defers := [] })
            (fun x a' _ _ _ _ h _ _ => h) ?assign2 ?body2 ?done2 ?stop2
          case assign2 =>
            rintro l pre x W K hI hK
            gi_wp2
            exact hK _ _ (KeepsFrom.refl _ _) ⟨⟨Nat.le_refl _, fun k c T fz _ _ => rfl⟩, Below.refl _ _⟩ hI rfl
          case body2 =>
            rintro l pre x a' W hl I rfl hsp hlen
            have hxk : x ∈ namedR es (i : Int) itN := hsp.subset (List.mem_append_right _ (List.mem_singleton.2 rfl))
            obtain ⟨U, hUk, hU⟩ := kid_on HG.out HUI.out (namedR_mem hxk).2.2
            obtain ⟨X, hX⟩ : ∃ X, foundP (flT U) (itemF f) = X := ⟨_, rfl⟩
            have HXI := Lib.hid (show itK es f x = X by unfold itK; rw [hU.part HG.out, hX])
            have HPC := Lib.hid (fun (u : World) (hu : Below w.heap.size w u) => rss_partT (FE.out u hu) HG.out hU)
            have hlens : (itemF f).id.length ≤ 1000 ∧ (itemF f).author.length ≤ 1000 ∧ (itemF f).content.length ≤ 1000 ∧ (itemF f).date.length ≤ 1000 := ⟨by show (idsF f).length ≤ 1000; unfold idsF; split <;> simp, by show 2 ≤ 1000; decide, by show 4 ≤ 1000; decide, by show 2 ≤ 1000; decide⟩
            have HFC := Lib.hid (fun (u : World) (hu : Below w.heap.size w u) (fv : Value) (base : Nat) (hF : FormAt u fv (itemF f) base) => (show Calls Try.prog 84 #[fv, .slice (some ⟨b, off + x * 5, none⟩) (U.2.2.sz + 2) (cap - x)] u fun r w' => r = .returned (.agg #[.string X.id, .string X.title, .string X.link, .string X.author, .string X.content, .string X.date, .int .i8 X.kind]) ∧ Below u.heap.size u w' by
              have h := rss_found B (flT U) _ (itemF f) fv base u ((FE.out u hu).part HG.out hU) hF hlens.1 hlens.2.1 hlens.2.2.1 hlens.2.2.2
              rw [hX] at h
              exact h))
            have hfo2 : f = 1 ∨ f = 2 := HFO.out.resolve_left hf0
            have HIC := Lib.hid (fun (u : World) => rss_item f hfo2 u)
            have hbd : Below W.heap.size W W.drew := (Below.refl _ W).drew
            have ID := ItJ.up I hbd
            obtain ⟨vD, hrD, hoD⟩ := ID.J.rs
            obtain ⟨y1, y2, y3, rfl⟩ := hoD.form
            simp only at hrD hoD
            have d0 := ID.J.bl.cell
            have k0 : W.drew.cell? ⟨w.heap.size + 1, 0, none⟩ = some (.int .i8 f) := hrD.blk.cell 0 rfl
            have k8 : W.drew.cell? ⟨w.heap.size + 1, 8, none⟩ = some (.slice y1 y2 y3) := hrD.blk.cell 8 rfl
            have hln : (its ++ pre.map (itK es f)).length < 1000000 := by
              have h1 : (pre ++ [x]).length ≤ (namedR es (i : Int) itN).length := hsp.length_le
              have h2 := namedR_len es (i : Int) itN
              rw [List.length_append] at h1
              rw [List.length_append, List.length_map]
              omega
            have RND := Lib.hid (fun (u : World) (hu : Below W.drew.heap.size W.drew u) => raw_round hrD hoD (by omega) ID.J.sz hu X hln)
            have RCE := Lib.hid (fun (u : World) (hu : Below W.drew.heap.size W.drew u) => (show u.cell? ⟨w.heap.size + 1, 8, none⟩ = some (.slice y1 y2 y3) ∧ u.cell? ⟨w.heap.size + 1, 0, none⟩ = some (.int .i8 f) from ⟨(hrD.below hu hrD.lt).blk.cell 8 rfl, (hrD.below hu hrD.lt).blk.cell 0 rfl⟩))
            have HID := Lib.hid ID
            have hBw := Lib.hid (FE.out w (Below.refl _ w)).f.hB
            clear hU hUk hX hxk hlens hrD hoD hln I ID hT8 I8 hE8 hsp hbd
            gi_wp2_with fail
            refine wpIn_region_T 10 (fun w' => Below W.drew.heap.size W.drew w') (by kernel_rfl) (by decide) ?_
            refine walkT_take (i := 0) (v := ?_) rfl (by kernel_rfl) (fun _ _ _ h => h) ⟨Or.inl ⟨by rfl, ?_⟩, fun _ => rfl⟩ (Below.refl _ _) ?_
            rotate_left
            · intro u hu
              go_simp
              try rfl
            simp only [Act.put]
            refine walkT_take (i := 1) (v := ?_) rfl (by kernel_rfl) (fun _ _ _ h => h) ⟨Or.inl ⟨by rfl, ?_⟩, fun _ => rfl⟩ (Below.refl _ _) ?_
            rotate_left
            · intro u hu
              have h8 := (RCE.out u hu).1
              go_simp
              try rfl
            simp only [Act.put]
            refine walkT_take (i := 2) (v := ?_) rfl (by kernel_rfl) (fun _ _ _ h => h) ⟨Or.inl ⟨by rfl, ?_⟩, fun _ => rfl⟩ (Below.refl _ _) ?_
            rotate_left
            · intro u hu
              go_simp
              try rfl
            simp only [Act.put]
            refine walkT_take (i := 3) (v := ?_) rfl (by kernel_rfl) (fun _ _ _ h => h) ⟨Or.inl ⟨by rfl, ?_⟩, fun _ => rfl⟩ (Below.refl _ _) ?_
            rotate_left
            · intro u hu
              have h0 := (RCE.out u hu).2
              go_simp
              try rfl
            simp only [Act.put]
            refine walkT_take (i := 5) (v := ?_) rfl (by kernel_rfl) (fun _ _ _ h => h) ⟨Or.inl ⟨by rfl, ?_⟩, fun _ => rfl⟩ (Below.refl _ _) ?_
            rotate_left
            · intro u hu
              have h0 := (HID.out.up hu).J.bl.cell
              go_simp
              try rfl
            simp only [Act.put]
            refine walkT_take (i := 6) (v := ?_) rfl (by kernel_rfl) (fun _ _ _ h => h) ⟨Or.inl ⟨by rfl, ?_⟩, fun _ => rfl⟩ (Below.refl _ _) ?_
            rotate_left
            · intro u hu
              go_simp
              try rfl
            simp only [Act.put]
            refine walkT_step (i := 4) rfl (by kernel_rfl) (fun K hK => ?_)
            rw [if_pos (by rfl)]
            go_simp
            refine ⟨trivial, ?_⟩
            refine (CallsIn.inRound l (callsIn_wide.2 (HIC.out _))).mono ?_
            rintro r wh ⟨fv, rfl, hF, hbh⟩
            refine hK _ _ hbh ?_
            clear hK K
            have CH := HID.out.up hbh
            refine walkT_step (i := 7) rfl (by kernel_rfl) (fun K hK => ?_)
            rw [if_pos (by rfl)]
            go_simp
            refine ⟨trivial, ?_⟩
            refine (CallsIn.inRound l (callsIn_wide.2 (HPC.out wh CH.J.be))).mono ?_
            rintro r wp ⟨rfl, hbp⟩
            refine hK _ _ (bt hbh hbp) ?_
            clear hK K
            have CP := CH.up hbp
            have hFp := hF.below hbp
            refine walkT_step (i := 8) rfl (by kernel_rfl) (fun K hK => ?_)
            rw [if_pos (by rfl)]
            go_simp
            refine ⟨trivial, ?_⟩
            refine (CallsIn.inRound l (callsIn_wide.2 (HFC.out wp CP.J.be _ _ hFp))).mono ?_
            rintro r wf ⟨rfl, hbf⟩
            refine hK _ _ (bt (bt hbh hbp) hbf) ?_
            clear hK K
            obtain ⟨z1, z2, z3, w16, e0, e1, HR, e2, e3, RN⟩ := RND.out wf (bt (bt hbh hbp) hbf)
            refine walkT_step (i := 9) rfl (by kernel_rfl) (fun K hK => ?_)
            rw [if_pos (by rfl)]
            go_simp
            refine hK _ _ ((bt (bt hbh hbp) hbf).alloc (Nat.le_trans (bt hbh hbp).size hbf.size) _) ?_
            clear hK K CH CP hF hFp hbh hbp hbf e0 e1 RND RCE
            refine walkT_tail (by kernel_rfl) ?_
            simp only [List.drop_succ_cons, List.drop_zero]
            gi_wp2_with fail
            have hdW : Below W.heap.size W W.drew := (Below.refl _ W).drew
            refine ⟨((keepsOthers_belowQ hdW).trans RN.ko).from _, ⟨(KeepsT.below hdW).trans (RN.kt rTs (by decide) (by decide)), (hdW.mono (Nat.le_trans hBw.out (Nat.le_trans (Nat.le_succ _) (Nat.le_of_lt HID.out.J.sz)))).trans (RN.be B (Nat.le_trans hBw.out (Nat.le_succ _)))⟩, ?_⟩
            show ItJ w _ ⟨f, H, its ++ (pre ++ [x]).map (itK es f)⟩ fb L Ds _
            rw [List.map_append, List.map_cons, List.map_nil, HXI.out, ← List.append_assoc]
            exact ⟨HID.out.J.item X RN, HID.out.rr.keep (RN.kt [3] (by decide) (by decide)) (by simp), HID.out.ms.keepO RN.ko⟩
          case done2 =>
            rintro D2 ys W2 hD2 hys I hK2
            gi_wp2_with fail
            refine ⟨⟨_, _, _, _, _, _, _, _, _, _, _, _, _, _, _, _, _, _, _, _, _, _, _, k + 1, _, D2 :: Ds, rfl, by omega, by omega, ?_, I.rr, I.ms.cons (fun h => by have := hML.out D2 h; omega) (by omega) hK2⟩, ?_⟩
            · rw [← HNX.out]
              have hj := I.J
              rw [hys] at hj
              exact hj
            · simp [intOf]
              omega
          case stop2 =>
            rintro D2 c2 pre2 W2 hD2 ht2 h
            exact h.elim
        · have hd := decide_eq_false (show ¬ (k : Int) < (n : Int) by omega)
          obtain ⟨v9, r9, o9⟩ := J.rs
          obtain ⟨y1, y2, y3, rfl⟩ := o9.form
          have k0 : wr.cell? ⟨w.heap.size + 1, 0, none⟩ = some (.int .i8 f) := r9.blk.cell 0 rfl
          have k1 : wr.cell? ⟨w.heap.size + 1, 1, none⟩ = some (.string H.id) := r9.blk.cell 1 rfl
          have k2 : wr.cell? ⟨w.heap.size + 1, 2, none⟩ = some (.string H.title) := r9.blk.cell 2 rfl
          have k3 : wr.cell? ⟨w.heap.size + 1, 3, none⟩ = some (.string H.link) := r9.blk.cell 3 rfl
          have k4 : wr.cell? ⟨w.heap.size + 1, 4, none⟩ = some (.string H.author) := r9.blk.cell 4 rfl
          have k5 : wr.cell? ⟨w.heap.size + 1, 5, none⟩ = some (.string H.content) := r9.blk.cell 5 rfl
          have k6 : wr.cell? ⟨w.heap.size + 1, 6, none⟩ = some (.string H.date) := r9.blk.cell 6 rfl
          have k7 : wr.cell? ⟨w.heap.size + 1, 7, none⟩ = some (.int .i8 H.kind) := r9.blk.cell 7 rfl
          have k8 : wr.cell? ⟨w.heap.size + 1, 8, none⟩ = some (.slice y1 y2 y3) := r9.blk.cell 8 rfl
          have kf0 : wr.frozen? ⟨w.heap.size + 1, 0, none⟩ = false := r9.blk.free 0
          have kf1 : wr.frozen? ⟨w.heap.size + 1, 1, none⟩ = false := r9.blk.free 1
          have kf2 : wr.frozen? ⟨w.heap.size + 1, 2, none⟩ = false := r9.blk.free 2
          have kf3 : wr.frozen? ⟨w.heap.size + 1, 3, none⟩ = false := r9.blk.free 3
          have kf4 : wr.frozen? ⟨w.heap.size + 1, 4, none⟩ = false := r9.blk.free 4
          have kf5 : wr.frozen? ⟨w.heap.size + 1, 5, none⟩ = false := r9.blk.free 5
          have kf6 : wr.frozen? ⟨w.heap.size + 1, 6, none⟩ = false := r9.blk.free 6
          have kf7 : wr.frozen? ⟨w.heap.size + 1, 7, none⟩ = false := r9.blk.free 7
          have kf8 : wr.frozen? ⟨w.heap.size + 1, 8, none⟩ = false := r9.blk.free 8
          have HRS := Lib.hid (raw_set r9 (.int .i8 f) (.string H.id) (.string H.title) (.string H.link) (.string H.author) (.string H.content) (.string H.date) (.int .i8 H.kind) (.slice y1 y2 y3))
          have HOS := Lib.hid (raw_own o9 (Nat.lt_succ_self _) (.int .i8 f) (.string H.id) (.string H.title) (.string H.link) (.string H.author) (.string H.content) (.string H.date) (.int .i8 H.kind) (.slice y1 y2 y3))
          have HBS := Lib.hid (raw_below J.be (Nat.le_succ _) (.int .i8 f) (.string H.id) (.string H.title) (.string H.link) (.string H.author) (.string H.content) (.string H.date) (.int .i8 H.kind) (.slice y1 y2 y3))
          have HMS := Lib.hid (M.keepO (raw_keepsO wr (w.heap.size + 1) (.int .i8 f) (.string H.id) (.string H.title) (.string H.link) (.string H.author) (.string H.content) (.string H.date) (.int .i8 H.kind) (.slice y1 y2 y3)))
          have HFQ := Lib.hid (show feedR es = ⟨f, H, (L.take k).flatMap fun i => itemsP es i f⟩ by rw [HFR.out, List.take_of_length_le (by rw [HNL.out]; omega)])
          have HKZ := Lib.hid (show (if kindP es = 0 then (43 : Int) else 0) = 0 by rw [hkp, if_neg hf0])
          clear J rr M r9 o9 HNL HON2
          gi_wp2_with fail
          change LeavesInM _ _ _ _ _ _ (marks Ds) .returning (World.setRaw wr (w.heap.size + 1) (.int .i8 f) (.string H.id) (.string H.title) (.string H.link) (.string H.author) (.string H.content) (.string H.date) (.int .i8 H.kind) (.slice y1 y2 y3))
          refine leaves_marksC (lo := w.heap.size + 2) Ds _ HMS.out fun W' hb' hk' => ?_
          refine ⟨_, results_cell2 rfl _ _ _ _ _ rfl (HRS.out.keep (hk' [50]) (by simp)).blk Try.underlying50 rfl (by kernel_rfl), ?_⟩
          unfold PaC
          rw [HKZ.out, HFQ.out]
          exact ⟨_, rfl, ⟨_, rfl, (hk' [47]).row HOS.out (by simp)⟩, HBS.out.trans (hb'.mono (by omega))⟩
end Go.Proofs.Yteefopeclfojiaa
