/-
  Layer 6: the law MediaWrites, walked.
-/
import Derived.Test.YtjemlaiciacnpaaMoE
import Derived.Test.YtjemlaiciacnpaaMoG
import Derived.Test.YtjemlaiciacnpaaMoC
import Derived.Test.YtjemlaiciacnpaaMoO
import Derived.Test.YtjemlaiciacnpaaMeL
namespace Go.Proofs.Ytjemlaiciacnpaa
open Go.RowKit
theorem sumS_mem {q : ByteArray × ByteArray} : ∀ {qs : List (ByteArray × ByteArray)}, q ∈ qs → q.1.size + q.2.size ≤ sumS qs
  | [], h => by cases h
  | x :: r, h => by
    unfold sumS
    rw [List.map_cons, List.sum_cons]
    rcases List.mem_cons.1 h with rfl | h
    · omega
    · have := sumS_mem h
      unfold sumS at this
      omega
theorem Two.boxed {w : World} {a b : ByteArray} {y z : Value} {q r : List (ByteArray × ByteArray)} (ma : MedAt w a y q) (mb : MedAt w b z r) :
    Two w ((w.alloc (.cells #[.string a, y] 25)).alloc (.cells #[.string b, z] 25)) w.heap.size w.heap.size (w.heap.size + 1) a b y z q r := by
  have hb := ((Below.refl w.heap.size w).alloc (Nat.le_refl _) (.cells #[.string a, y] 25)).alloc (by simp) (.cells #[.string b, z] 25)
  have hn := BlkAt.new (w.alloc (.cells #[.string a, y] 25)) #[.string b, z] 25
  rw [show (w.alloc (.cells #[.string a, y] 25)).heap.size = w.heap.size + 1 by simp] at hn
  exact ⟨(BlkAt.new w _ _).alloc _, hn, ma.r.below hb (Nat.le_refl _), mb.r.below hb (Nat.le_refl _), hb, hb.size⟩
/-- two that came in, and the library's own variable. -/
structure TwoM (w : World) (m : Int) (B p q : Nat) (t u : ByteArray) (va vb : Value) (qs rs : List (ByteArray × ByteArray)) (wr : World) : Prop where
  t : Two w wr B p q t u va vb qs rs
  mx : MaxAt wr m
theorem TwoM.below {w wr wx : World} {m : Int} {B p q : Nat} {t u : ByteArray} {va vb : Value} {qs rs : List (ByteArray × ByteArray)} (h : TwoM w m B p q t u va vb qs rs wr) (hb : Below wr.heap.size wr wx) : TwoM w m B p q t u va vb qs rs wx := ⟨h.t.below hb, h.mx.below hb⟩
theorem TwoM.drew {w wr : World} {m : Int} {B p q : Nat} {t u : ByteArray} {va vb : Value} {qs rs : List (ByteArray × ByteArray)} (h : TwoM w m B p q t u va vb qs rs wr) : TwoM w m B p q t u va vb qs rs wr.drew := ⟨h.t.drew, h.mx.below (Below.refl _ wr).drew⟩
set_option maxRecDepth 100000 in
set_option maxHeartbeats 8000000 in
theorem law_MediaWrites (a : ByteArray) (y : Value) (q : List (ByteArray × ByteArray)) (b : ByteArray) (z : Value) (r : List (ByteArray × ByteArray)) (w : World) (m : Int) (hm : MaxAt w m) (ma : MedAt w a y q) (mb : MedAt w b z r) :
    Calls Try.prog 6 #[.agg #[.string a, y], .agg #[.string b, z]] w fun e w' => e = .returned (.bool true) ∧ Below w.heap.size w w' := by
  have T00 := Two.boxed ma mb
  have hra := ma.r
  have hrb := mb.r
  obtain ⟨aa, ac, rfl, -⟩ := hra
  obtain ⟨ba, bc, rfl, -⟩ := hrb
  have hza : a.size ≤ 140737488351232 := ma.sz
  have hna : q.length ≤ 140737488351232 := ma.n
  have hzb : b.size ≤ 140737488351232 := mb.sz
  have hnb : r.length ≤ 140737488351232 := mb.n
  have T0 : TwoM w m w.heap.size w.heap.size (w.heap.size + 1) a b (.slice aa q.length ac) (.slice ba r.length bc) q r ((w.alloc (.cells #[.string a, .slice aa q.length ac] 25)).alloc (.cells #[.string b, .slice ba r.length bc] 25)) := ⟨T00, hm.below T00.bl⟩
  clear ma mb T00 hm
  go_enter Try.func6, Try.ntmps6
  go_wp2_with fail
  obtain ⟨p, hp⟩ : ∃ p, w.heap.size = p := ⟨_, rfl⟩
  rw [hp] at T0 ⊢
  clear hp
  generalize (w.alloc (.cells #[.string a, .slice aa q.length ac] 25)).alloc (.cells #[.string b, .slice ba r.length bc] 25) = w1 at T0 ⊢
  refine (ref06_Great p a _ q w1 T0.t.ra T0.t.sz hza hna).mono ?_
  rintro e w2 ⟨b1, rfl, hb1, hg1⟩
  have T1 := T0.below hb1
  clear T0 hb1
  cases b1 with
  | true =>
    clear hg1
    go_wp2_with fail
    refine (law06_wakes _).mono ?_
    rintro e w9 ⟨rfl, hb9⟩
    go_wp2_with fail
    go_ret
    exact ⟨rfl, bt T1.t.bl hb9⟩
  | false =>
    obtain ⟨hq60, hq3⟩ := hg1 rfl
    clear hg1
    have hc2 := T1.t.b.cell 0 rfl
    have hc3 := T1.t.b.cell 1 rfl
    go_wp2_with fail
    refine (ref06_Great p b _ r w2 T1.t.rb T1.t.sz hzb hnb).mono ?_
    rintro e w3 ⟨b2, rfl, hb2, hg2⟩
    have T2 := T1.below hb2
    clear T1 hb2 hc2 hc3
    cases b2 with
    | true =>
      clear hg2
      go_wp2_with fail
      refine (law06_wakes _).mono ?_
      rintro e w9 ⟨rfl, hb9⟩
      go_wp2_with fail
      go_ret
      exact ⟨rfl, bt T2.t.bl hb9⟩
    | false =>
      obtain ⟨hr60, hr3⟩ := hg2 rfl
      clear hg2
      have hqz : ∀ x ∈ q, x.1.size ≤ 1000000 ∧ x.2.size ≤ 1000000 := fun x hx => by have := sumS_mem hx; omega
      have hza2 : a.size ≤ 1000000 := by omega
      have hq62 : q.length ≤ 1000000 := by omega
      have hr62 : r.length ≤ 1000000 := by omega
      clear hq3 hr3 hza hzb hna hnb
      obtain ⟨R, hR⟩ : ∃ R, txtN (nums a) (numsP q) = R := ⟨_, rfl⟩
      have HTX := fun w h1 h2 h3 => media_Text p a (.slice aa q.length ac) q w m h1 h2 h3 hza2 hq62 hqz
      have HTY := fun w h1 h2 h3 => ref06_Text p a (.slice aa q.length ac) q w m h1 h2 h3 hza2 hq62 hqz
      rw [hR] at HTX HTY
      obtain ⟨S, hS⟩ : ∃ S, strOfNums (R.getD []) = S := ⟨_, rfl⟩
      obtain ⟨n, hn⟩ : ∃ n : Int, (if R.isSome then 0 else 2) = n := ⟨_, rfl⟩
      have HTZ : Hid (∀ e, TxtR R e → e = .returned (.tuple #[.string S, .int .i64 n])) := Lib.hid fun e he => by
        unfold TxtR at he
        rwa [hS, hn] at he
      have HTX := Lib.hid HTX
      have HTY := Lib.hid HTY
      clear hR hS hn hqz
      obtain ⟨sb, hsb⟩ : ∃ sb, sameB a b q r = sb := ⟨_, rfl⟩
      have hSA := fun w h1 h2 h3 => media_Same p a b (.slice aa q.length ac) (.slice ba r.length bc) q r w h1 h2 h3 hq62 hr62
      have hSB := fun w h1 h2 h3 => ref06_Same p a b (.slice aa q.length ac) (.slice ba r.length bc) q r w h1 h2 h3 hq62 hr62
      rw [hsb] at hSA hSB
      have HSA := Lib.hid hSA
      have HSB := Lib.hid hSB
      obtain ⟨xm, hxm⟩ : ∃ xm, xmlB a = xm := ⟨_, rfl⟩
      have hXA := fun w => media_Xml a (.slice aa q.length ac) w hza2
      have hXB := fun w => ref06_Xml a (.slice aa q.length ac) w hza2
      rw [hxm] at hXA hXB
      have HXA := Lib.hid hXA
      have HXB := Lib.hid hXB
      clear hsb hSA hSB hxm hXA hXB
      have hc0 := T2.t.a.cell 0 rfl
      have hc1 := T2.t.a.cell 1 rfl
      go_wp2_with fail
      refine (HTX.out _ T2.mx T2.t.ra T2.t.sz).mono ?_
      rintro e w4 ⟨he, hb4⟩
      obtain rfl := HTZ.out e he
      clear he
      have T3 := T2.below hb4
      clear T2 hb4 hc0 hc1
      have hc0 := T3.t.a.cell 0 rfl
      have hc1 := T3.t.a.cell 1 rfl
      go_wp2_with fail
      refine (HTY.out _ T3.mx T3.t.ra T3.t.sz).mono ?_
      rintro e w5 ⟨he, hb5⟩
      obtain rfl := HTZ.out e he
      clear he
      have T := (T3.below hb5).drew
      clear T3 hb5 hc0 hc1
      have hc0 := T.t.a.cell 0 rfl
      have hc1 := T.t.a.cell 1 rfl
      have hc2 := T.t.b.cell 0 rfl
      have hc3 := T.t.b.cell 1 rfl
      have e1 : (n == n) = true := by simp
      have e2 : (S.toList == S.toList) = true := by simp
      have e3 : (sb == sb) = true := by simp
      have e4 : (xm == xm) = true := by simp
      go_wp2_with fail
      go_region_held3 (fun w' => w'.cell? ⟨p, 0, none⟩ = some (.string a) ∧ w'.cell? ⟨p, 1, none⟩ = some (.slice aa q.length ac) ∧ w'.cell? ⟨p + 1, 0, none⟩ = some (.string b) ∧ w'.cell? ⟨p + 1, 1, none⟩ = some (.slice ba r.length bc)) (first | go_keep | exact ⟨hc0, hc1, hc2, hc3⟩) (first
        | (go_at_call 20; refine (HSA.out _ T.t.ra T.t.rb T.t.sz).mono ?_; rintro e w7 ⟨rfl, hb⟩; have T := T.below hb; have hc0 := T.t.a.cell 0 rfl; have hc1 := T.t.a.cell 1 rfl; have hc2 := T.t.b.cell 0 rfl; have hc3 := T.t.b.cell 1 rfl)
        | (go_at_call 12; refine (HSB.out _ T.t.ra T.t.rb T.t.sz).mono ?_; rintro e w7 ⟨rfl, hb⟩; have T := T.below hb; have hc0 := T.t.a.cell 0 rfl; have hc1 := T.t.a.cell 1 rfl; have hc2 := T.t.b.cell 0 rfl; have hc3 := T.t.b.cell 1 rfl)
        | (go_at_call 13; refine (HXA.out _).mono ?_; rintro e w7 ⟨rfl, hb⟩; have T := T.below hb; have hc0 := T.t.a.cell 0 rfl; have hc1 := T.t.a.cell 1 rfl; have hc2 := T.t.b.cell 0 rfl; have hc3 := T.t.b.cell 1 rfl)
        | (go_at_call 14; refine (HXB.out _).mono ?_; rintro e w7 ⟨rfl, hb⟩; have T := T.below hb; have hc0 := T.t.a.cell 0 rfl; have hc1 := T.t.a.cell 1 rfl; have hc2 := T.t.b.cell 0 rfl; have hc3 := T.t.b.cell 1 rfl)
        | (go_at_call 7; refine (law06_wakes _).mono ?_; rintro e w7 ⟨rfl, hb⟩; have T := T.below hb; have hc0 := T.t.a.cell 0 rfl; have hc1 := T.t.a.cell 1 rfl; have hc2 := T.t.b.cell 0 rfl; have hc3 := T.t.b.cell 1 rfl))
      go_wp2_with fail
      go_ret
      exact ⟨rfl, T.t.bl⟩
end Go.Proofs.Ytjemlaiciacnpaa
