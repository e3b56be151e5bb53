/-
  Layer 6: the law MediaBack, walked.
-/
import Derived.Test.YtjemlaiciacnpaaMoH
import Derived.Test.YtjemlaiciacnpaaMoS
namespace Go.Proofs.Ytjemlaiciacnpaa
open Go.RowKit
theorem pairs_nums : ∀ q : List (ByteArray × ByteArray), pairsOf (numsP q) = q
  | [] => rfl
  | x :: r => by
    show (strOfNums (nums x.1), strOfNums (nums x.2)) :: pairsOf (numsP r) = _
    rw [pairs_nums r, strOfNums_nums, strOfNums_nums]
theorem nums_pairs : ∀ ps : List (List Int × List Int), (∀ p ∈ ps, isBs p.1 ∧ isBs p.2) → numsP (pairsOf ps) = ps
  | [], _ => rfl
  | x :: r, h => by
    obtain ⟨h1, h2⟩ := h x (List.mem_cons_self ..)
    show (nums (strOfNums x.1), nums (strOfNums x.2)) :: numsP (pairsOf r) = _
    rw [nums_pairs r (fun p hp => h p (List.mem_cons_of_mem _ hp)), nums_strOfNums _ h1, nums_strOfNums _ h2]
theorem lenP_nums : ∀ q : List (ByteArray × ByteArray), lenP (numsP q) = sumS q
  | [] => rfl
  | x :: r => by
    have := lenP_nums r
    unfold lenP sumS numsP at *
    simp only [List.map_cons, List.sum_cons, List.map_map] at *
    rw [this, nums_length, nums_length]
theorem numsP_bs (q : List (ByteArray × ByteArray)) : ∀ p ∈ numsP q, isBs p.1 ∧ isBs p.2 := fun p hp => by
  obtain ⟨x, _, rfl⟩ := List.mem_map.1 hp
  exact ⟨nums_isBs _, nums_isBs _⟩
theorem numsP_length (q : List (ByteArray × ByteArray)) : (numsP q).length = q.length := by simp [numsP]
/-- a Content-Type in the block p. -/
structure Bx (B p : Nat) (t : ByteArray) (va : Value) (qs : List (ByteArray × ByteArray)) (wr : World) : Prop where
  a : BlkAt wr p #[.string t, va]
  r : CReads B wr va qs.length (pairCells qs)
  sz : B ≤ wr.heap.size
theorem Bx.below {B p : Nat} {t : ByteArray} {va : Value} {qs : List (ByteArray × ByteArray)} {wr wx : World} (h : Bx B p t va qs wr) (hb : Below wr.heap.size wr wx) : Bx B p t va qs wx :=
  ⟨h.a.below hb h.a.lt, h.r.below hb h.sz, Nat.le_trans h.sz hb.size⟩
theorem Bx.drew {B p : Nat} {t : ByteArray} {va : Value} {qs : List (ByteArray × ByteArray)} {wr : World} (h : Bx B p t va qs wr) : Bx B p t va qs wr.drew := h.below (Below.refl _ wr).drew
theorem Bx.alloc {B p : Nat} {t : ByteArray} {va : Value} {qs : List (ByteArray × ByteArray)} {wr : World} (h : Bx B p t va qs wr) (o : Obj) : Bx B p t va qs (wr.alloc o) := h.below ((Below.refl _ wr).alloc (Nat.le_refl _) o)
theorem Bx.new {w1 : World} {t : ByteArray} {v : Value} {qs : List (ByteArray × ByteArray)} (h : CReads w1.heap.size w1 v qs.length (pairCells qs)) : Bx w1.heap.size w1.heap.size t v qs (w1.alloc (.cells #[.string t, v] 25)) :=
  ⟨BlkAt.new w1 _ _, h.below ((Below.refl _ w1).alloc (Nat.le_refl _) _) (Nat.le_refl _), by simp⟩
/-- Parse of a text that is one. -/
theorem parse_some (s t : ByteArray) (qs : List (ByteArray × ByteArray)) (hs : s.size ≤ 100000) (tn : List Int) (ps : List (List Int × List Int)) (h : parseN (nums s) = some (tn, ps)) (ht : strOfNums tn = t) (hq : pairsOf ps = qs) (w : World) :
    Calls Try.prog 8 #[.string s] w fun e w' => ∃ v, e = .returned (.tuple #[.agg #[.string t, v], .int .i64 0]) ∧ Below w.heap.size w w' ∧ CReads w'.heap.size w' v qs.length (pairCells qs) := by
  refine (media_Parse s w hs).mono ?_
  rintro e w' hm
  rw [h] at hm
  obtain ⟨v, h1, h2, h3⟩ := hm.out
  refine ⟨v, ?_, h2, ?_⟩
  · rw [h1, ← ht]; rfl
  · rw [← hq]; exact h3
theorem parse_none (s : ByteArray) (hs : s.size ≤ 100000) (h : parseN (nums s) = none) (w : World) :
    Calls Try.prog 8 #[.string s] w fun e w' => ∃ v, e = .returned (.tuple #[.agg #[.string ⟨#[]⟩, v], .int .i64 70]) ∧ Below w.heap.size w w' ∧ CReads w'.heap.size w' v ([] : List (ByteArray × ByteArray)).length (pairCells []) := by
  refine (media_Parse s w hs).mono ?_
  rintro e w' hm
  rw [h] at hm
  obtain ⟨v, h1, h2, h3⟩ := hm.out
  exact ⟨v, h1, h2, h3⟩
/-- what lasts: the argument in its block, the library's own variable. -/
structure BkI (w : World) (m : Int) (p : Nat) (a : ByteArray) (va : Value) (q : List (ByteArray × ByteArray)) (wr : World) : Prop where
  b : Bx p p a va q wr
  mx : MaxAt wr m
  bl : Below w.heap.size w wr
theorem BkI.below {w wr wx : World} {m : Int} {p : Nat} {a : ByteArray} {va : Value} {q : List (ByteArray × ByteArray)} (h : BkI w m p a va q wr) (hb : Below wr.heap.size wr wx) : BkI w m p a va q wx := ⟨h.b.below hb, h.mx.below hb, bt h.bl hb⟩
theorem BkI.drew {w wr : World} {m : Int} {p : Nat} {a : ByteArray} {va : Value} {q : List (ByteArray × ByteArray)} (h : BkI w m p a va q wr) : BkI w m p a va q wr.drew := h.below (Below.refl _ wr).drew
theorem BkI.alloc {w wr : World} {m : Int} {p : Nat} {a : ByteArray} {va : Value} {q : List (ByteArray × ByteArray)} (h : BkI w m p a va q wr) (o : Obj) : BkI w m p a va q (wr.alloc o) := h.below ((Below.refl _ wr).alloc (Nat.le_refl _) o)
set_option maxRecDepth 100000 in
set_option maxHeartbeats 8000000 in
theorem law_MediaBack (a : ByteArray) (y : Value) (q : List (ByteArray × ByteArray)) (s : ByteArray) (w : World) (m : Int) (hm : MaxAt w m) (ma : MedAt w a y q) (hs : s.size ≤ 140737488351232) :
    Calls Try.prog 5 #[.agg #[.string a, y], .string s] w fun e w' => e = .returned (.bool true) ∧ Below w.heap.size w w' := by
  have hra := ma.r
  obtain ⟨aa, ac, rfl, -⟩ := hra
  have hza : a.size ≤ 140737488351232 := ma.sz
  have hna : q.length ≤ 140737488351232 := ma.n
  have T0 : BkI w m w.heap.size a (.slice aa q.length ac) q (w.alloc (.cells #[.string a, .slice aa q.length ac] 25)) :=
    ⟨Bx.new ma.r, hm.below ((Below.refl w.heap.size w).alloc (Nat.le_refl _) _), (Below.refl w.heap.size w).alloc (Nat.le_refl _) _⟩
  clear ma hm
  go_enter Try.func5, Try.ntmps5
  go_wp2_with fail
  obtain ⟨p, hp⟩ : ∃ p, w.heap.size = p := ⟨_, rfl⟩
  have T1 : BkI w m p a (.slice aa q.length ac) q (w.alloc (.cells #[.string a, .slice aa q.length ac] 25)) := by rw [← hp]; exact T0
  rw [hp]
  clear hp T0
  generalize w.alloc (.cells #[.string a, .slice aa q.length ac] 25) = w1 at T1 ⊢
  refine (ref06_Great p a _ q w1 T1.b.r T1.b.sz hza hna).mono ?_
  rintro e w2 ⟨b1, rfl, hb1, hg1⟩
  replace T1 := T1.below hb1
  clear hb1
  cases b1 with
  | true =>
    clear hg1
    go_wp2_with fail
    refine (law06_wakes _).mono ?_
    rintro e w9 ⟨rfl, hb9⟩
    go_wp2_with fail
    go_ret
    exact ⟨rfl, bt T1.bl hb9⟩
  | false =>
    obtain ⟨hq60, hq3⟩ := hg1 rfl
    clear hg1
    by_cases h3 : 3000 < s.size
    · have hd := decide_eq_true (show (3000 : Int) < (s.size : Int) by omega)
      clear hq3
      go_wp2_with fail
      refine (law06_wakes _).mono ?_
      rintro e w9 ⟨rfl, hb9⟩
      go_wp2_with fail
      go_ret
      exact ⟨rfl, bt T1.bl hb9⟩
    · have hd := decide_eq_false (show ¬ (3000 : Int) < (s.size : Int) by omega)
      have hqz : ∀ x ∈ q, x.1.size ≤ 1000000 ∧ x.2.size ≤ 1000000 := fun x hx => by have := sumS_mem hx; omega
      have hza2 : a.size ≤ 1000000 := by omega
      have hq62 : q.length ≤ 1000000 := by omega
      have HTX := fun w h1 h2 h3 => media_Text p a (.slice aa q.length ac) q w m h1 h2 h3 hza2 hq62 hqz
      have hc0 := T1.b.a.cell 0 rfl
      have hc1 := T1.b.a.cell 1 rfl
      -- what comes behind, whatever became of the first half
      cases hR : txtN (nums a) (numsP q) with
      | none =>
        rw [hR] at HTX
        have HTX := Lib.hid HTX
        clear hR hqz hza hna
        go_wp2_with fail
        refine (HTX.out _ T1.mx T1.b.r T1.b.sz).mono ?_
        rintro e w3 ⟨he, hb3⟩
        obtain rfl : e = .returned (.tuple #[.string ⟨#[]⟩, .int .i64 2]) := he
        have T := T1.below hb3
        clear hb3 T1 hc0 hc1
        go_wp2_with fail
        cases hP : parseN (nums s) with
        | none =>
          have HPN := Lib.hid (parse_none s (by omega) hP)
          clear hP
          refine (HPN.out _).mono ?_
          rintro e w6 ⟨vy, rfl, hb6, hry⟩
          obtain ⟨ya, yc, rfl, -⟩ := hry
          have T4 := (T.below hb6).alloc (.cells #[.string ⟨#[]⟩, .slice ya ([] : List (ByteArray × ByteArray)).length yc] 25)
          clear T hb6
          go_wp2_with fail
          refine (law06_wakes _).mono ?_
          rintro e w9 ⟨rfl, hb9⟩
          go_wp2_with fail
          go_ret
          exact ⟨rfl, bt T4.bl hb9⟩
        | some tp =>
          obtain ⟨ty, ps⟩ := tp
          obtain ⟨hty, L2, hL2⟩ := txt_parse hP
          obtain ⟨tb, pb, hlen⟩ := parse_all (nums_isBs s) hP
          rw [nums_length] at hlen
          have hL2b := txtN_bs tb pb hL2
          have hL2l := txtN_len hL2
          have hL2n := txtN_ne hty hL2
          have hpar2 := parse_txt hL2
          obtain ⟨Z, hZ⟩ : ∃ Z, strOfNums ty = Z := ⟨_, rfl⟩
          obtain ⟨Q, hQ⟩ : ∃ Q, pairsOf ps = Q := ⟨_, rfl⟩
          obtain ⟨V, hV⟩ : ∃ V, strOfNums L2 = V := ⟨_, rfl⟩
          have hZn : nums Z = ty := by rw [← hZ, nums_strOfNums _ tb]
          have hQn : numsP Q = ps := by rw [← hQ, nums_pairs _ pb]
          have hVn : nums V = L2 := by rw [← hV, nums_strOfNums _ hL2b]
          have hZs : Z.size ≤ 3000 := by
            have : Z.size = ty.length := by rw [← hZn, nums_length]
            omega
          have hVs : V.size ≤ 100000 := by
            have : V.size = L2.length := by rw [← hVn, nums_length]
            omega
          have hQs : Q.length ≤ 3000 := by rw [← numsP_length, hQn]; omega
          have hQz : ∀ x ∈ Q, x.1.size ≤ 1000000 ∧ x.2.size ≤ 1000000 := fun x hx => by
            have h1 := sumS_mem hx
            have h2 : sumS Q = lenP ps := by rw [← lenP_nums, hQn]
            omega
          have hVe : (V.toList == []) = false := by
            have h1 : V ≠ ⟨#[]⟩ := by rw [← hV]; exact strOfNums_ne L2 hL2n
            have h2 := isEmpty_no V h1
            cases hh : V.toList with
            | nil => rw [hh] at h2; cases h2
            | cons c r => rfl
          have HPS := Lib.hid (parse_some s Z Q (by omega) ty ps hP hZ hQ)
          have HPV := Lib.hid (parse_some V Z Q hVs ty ps (by rw [hVn]; exact hpar2) hZ hQ)
          have HTV : Hid (∀ (B : Nat) (v : Value) (w : World), MaxAt w m → CReads B w v Q.length (pairCells Q) → B ≤ w.heap.size → Calls Try.prog 18 #[.agg #[.string Z, v]] w fun e w' => e = .returned (.tuple #[.string V, .int .i64 0]) ∧ Below w.heap.size w w') := Lib.hid fun B v w h1 h2 h3 => by
            refine (media_Text B Z v Q w m h1 h2 h3 (by omega) (by omega) hQz).mono ?_
            rintro e w' ⟨he, hb⟩
            rw [hZn, hQn, hL2] at he
            refine ⟨?_, hb⟩
            rw [← hV]
            exact he
          have hsm2 : sameB Z Z Q Q = true := by unfold sameB; simp
          have hQ6 : Q.length ≤ 1000000 := by omega
          clear hP hL2 hty tb pb hlen hL2b hL2l hL2n hpar2 hZ hQ hV hZn hQn hVn hZs hVs hQs hQz
          refine (HPS.out _).mono ?_
          rintro e w6 ⟨vy, rfl, hb6, hry⟩
          have hry0 := hry
          obtain ⟨ya, yc, rfl, -⟩ := hry0
          have T4 := (T.below hb6).alloc (.cells #[.string Z, .slice ya Q.length yc] 25)
          have Y4 := Bx.new (t := Z) hry
          clear T hb6 hry
          have hc2 := Y4.a.cell 0 rfl
          have hc3 := Y4.a.cell 1 rfl
          go_wp2_with fail
          obtain ⟨yb, hyb⟩ : ∃ yb, w6.heap.size = yb := ⟨_, rfl⟩
          rw [hyb] at Y4 hc2 hc3 ⊢
          clear hyb
          generalize w6.alloc (.cells #[.string Z, .slice ya Q.length yc] 25) = w7 at T4 Y4 hc2 hc3 ⊢
          refine (HTV.out _ _ _ T4.mx Y4.r Y4.sz).mono ?_
          rintro e w8 ⟨rfl, hb8⟩
          replace T4 := T4.below hb8
          replace Y4 := Y4.below hb8
          clear hb8 hc2 hc3
          go_wp2_with fail
          refine (HPV.out _).mono ?_
          rintro e w10 ⟨vz, rfl, hb10, hrz⟩
          have hrz0 := hrz
          obtain ⟨za, zc, rfl, -⟩ := hrz0
          have hyw := (Y4.below hb10).sz
          have T5 := (T4.below hb10).alloc (.cells #[.string Z, .slice za Q.length zc] 25)
          have Y5 := (Y4.below hb10).alloc (.cells #[.string Z, .slice za Q.length zc] 25)
          have Z5 := Bx.new (t := Z) hrz
          clear hb10 T4 Y4 hrz
          have hc2 := Y5.a.cell 0 rfl
          have hc3 := Y5.a.cell 1 rfl
          have hc4 := Z5.a.cell 0 rfl
          have hc5 := Z5.a.cell 1 rfl
          go_wp2_with fail
          refine (ref06_Same w10.heap.size Z Z (.slice ya Q.length yc) (.slice za Q.length zc) Q Q _ (Y5.r.mono hyw) Z5.r Z5.sz hQ6 hQ6).mono ?_
          rw [hsm2]
          rintro e w11 ⟨rfl, hb11⟩
          replace T5 := T5.below hb11
          go_wp2_with fail
          refine (law06_wakes _).mono ?_
          rintro e w9 ⟨rfl, hb9⟩
          go_wp2_with fail
          go_ret
          exact ⟨rfl, bt T5.bl hb9⟩
      | some L =>
        have hLb := txtN_bs (nums_isBs a) (numsP_bs q) hR
        have hLl := txtN_len hR
        rw [lenP_nums, nums_length, numsP_length] at hLl
        have hpar := parse_txt hR
        rw [hR] at HTX
        have HTX := Lib.hid HTX
        clear hR hqz hza hna
        obtain ⟨U, hU⟩ : ∃ U, strOfNums L = U := ⟨_, rfl⟩
        have hUn : nums U = L := by rw [← hU, nums_strOfNums _ hLb]
        have hUs : U.size ≤ 100000 := by
          have : U.size = L.length := by rw [← hUn, nums_length]
          omega
        have HPU := Lib.hid (parse_some U a q hUs (nums a) (numsP q) (by rw [hUn]; exact hpar) (strOfNums_nums a) (pairs_nums q))
        have HU := Lib.hid hU
        clear hU hUn hUs hLb hLl hpar
        have hsm : sameB a a q q = true := by unfold sameB; simp
        go_wp2_with fail
        refine (HTX.out _ T1.mx T1.b.r T1.b.sz).mono ?_
        rintro e w3 ⟨he, hb3⟩
        obtain rfl : e = .returned (.tuple #[.string U, .int .i64 0]) := by rw [← HU.out]; exact he
        clear he
        have T2 := T1.below hb3
        clear hb3 T1 hc0 hc1
        go_wp2_with fail
        refine (HPU.out _).mono ?_
        rintro e w4 ⟨vx, rfl, hb4, hrx⟩
        have hrx0 := hrx
        obtain ⟨xa, xc, rfl, -⟩ := hrx0
        have hpw := (T2.below hb4).b.sz
        have T3 := (T2.below hb4).alloc (.cells #[.string a, .slice xa q.length xc] 25)
        have X3 := Bx.new (t := a) hrx
        clear hb4 T2 hrx
        have hc0 := T3.b.a.cell 0 rfl
        have hc1 := T3.b.a.cell 1 rfl
        have hc2 := X3.a.cell 0 rfl
        have hc3 := X3.a.cell 1 rfl
        go_wp2_with fail
        refine (ref06_Same w4.heap.size a a (.slice xa q.length xc) (.slice aa q.length ac) q q _ X3.r (T3.b.r.mono hpw) X3.sz hq62 hq62).mono ?_
        rw [hsm]
        rintro e w5 ⟨rfl, hb5⟩
        have T := T3.below hb5
        clear hb5 T3 X3 hc0 hc1 hc2 hc3 hpw HTX HPU HU hsm
        go_wp2_with fail
        cases hP : parseN (nums s) with
        | none =>
          have HPN := Lib.hid (parse_none s (by omega) hP)
          clear hP
          refine (HPN.out _).mono ?_
          rintro e w6 ⟨vy, rfl, hb6, hry⟩
          obtain ⟨ya, yc, rfl, -⟩ := hry
          have T4 := (T.below hb6).alloc (.cells #[.string ⟨#[]⟩, .slice ya ([] : List (ByteArray × ByteArray)).length yc] 25)
          clear T hb6
          go_wp2_with fail
          refine (law06_wakes _).mono ?_
          rintro e w9 ⟨rfl, hb9⟩
          go_wp2_with fail
          go_ret
          exact ⟨rfl, bt T4.bl hb9⟩
        | some tp =>
          obtain ⟨ty, ps⟩ := tp
          obtain ⟨hty, L2, hL2⟩ := txt_parse hP
          obtain ⟨tb, pb, hlen⟩ := parse_all (nums_isBs s) hP
          rw [nums_length] at hlen
          have hL2b := txtN_bs tb pb hL2
          have hL2l := txtN_len hL2
          have hL2n := txtN_ne hty hL2
          have hpar2 := parse_txt hL2
          obtain ⟨Z, hZ⟩ : ∃ Z, strOfNums ty = Z := ⟨_, rfl⟩
          obtain ⟨Q, hQ⟩ : ∃ Q, pairsOf ps = Q := ⟨_, rfl⟩
          obtain ⟨V, hV⟩ : ∃ V, strOfNums L2 = V := ⟨_, rfl⟩
          have hZn : nums Z = ty := by rw [← hZ, nums_strOfNums _ tb]
          have hQn : numsP Q = ps := by rw [← hQ, nums_pairs _ pb]
          have hVn : nums V = L2 := by rw [← hV, nums_strOfNums _ hL2b]
          have hZs : Z.size ≤ 3000 := by
            have : Z.size = ty.length := by rw [← hZn, nums_length]
            omega
          have hVs : V.size ≤ 100000 := by
            have : V.size = L2.length := by rw [← hVn, nums_length]
            omega
          have hQs : Q.length ≤ 3000 := by rw [← numsP_length, hQn]; omega
          have hQz : ∀ x ∈ Q, x.1.size ≤ 1000000 ∧ x.2.size ≤ 1000000 := fun x hx => by
            have h1 := sumS_mem hx
            have h2 : sumS Q = lenP ps := by rw [← lenP_nums, hQn]
            omega
          have hVe : (V.toList == []) = false := by
            have h1 : V ≠ ⟨#[]⟩ := by rw [← hV]; exact strOfNums_ne L2 hL2n
            have h2 := isEmpty_no V h1
            cases hh : V.toList with
            | nil => rw [hh] at h2; cases h2
            | cons c r => rfl
          have HPS := Lib.hid (parse_some s Z Q (by omega) ty ps hP hZ hQ)
          have HPV := Lib.hid (parse_some V Z Q hVs ty ps (by rw [hVn]; exact hpar2) hZ hQ)
          have HTV : Hid (∀ (B : Nat) (v : Value) (w : World), MaxAt w m → CReads B w v Q.length (pairCells Q) → B ≤ w.heap.size → Calls Try.prog 18 #[.agg #[.string Z, v]] w fun e w' => e = .returned (.tuple #[.string V, .int .i64 0]) ∧ Below w.heap.size w w') := Lib.hid fun B v w h1 h2 h3 => by
            refine (media_Text B Z v Q w m h1 h2 h3 (by omega) (by omega) hQz).mono ?_
            rintro e w' ⟨he, hb⟩
            rw [hZn, hQn, hL2] at he
            refine ⟨?_, hb⟩
            rw [← hV]
            exact he
          have hsm2 : sameB Z Z Q Q = true := by unfold sameB; simp
          have hQ6 : Q.length ≤ 1000000 := by omega
          clear hP hL2 hty tb pb hlen hL2b hL2l hL2n hpar2 hZ hQ hV hZn hQn hVn hZs hVs hQs hQz
          refine (HPS.out _).mono ?_
          rintro e w6 ⟨vy, rfl, hb6, hry⟩
          have hry0 := hry
          obtain ⟨ya, yc, rfl, -⟩ := hry0
          have T4 := (T.below hb6).alloc (.cells #[.string Z, .slice ya Q.length yc] 25)
          have Y4 := Bx.new (t := Z) hry
          clear T hb6 hry
          have hc2 := Y4.a.cell 0 rfl
          have hc3 := Y4.a.cell 1 rfl
          go_wp2_with fail
          obtain ⟨yb, hyb⟩ : ∃ yb, w6.heap.size = yb := ⟨_, rfl⟩
          rw [hyb] at Y4 hc2 hc3 ⊢
          clear hyb
          generalize w6.alloc (.cells #[.string Z, .slice ya Q.length yc] 25) = w7 at T4 Y4 hc2 hc3 ⊢
          refine (HTV.out _ _ _ T4.mx Y4.r Y4.sz).mono ?_
          rintro e w8 ⟨rfl, hb8⟩
          replace T4 := T4.below hb8
          replace Y4 := Y4.below hb8
          clear hb8 hc2 hc3
          go_wp2_with fail
          refine (HPV.out _).mono ?_
          rintro e w10 ⟨vz, rfl, hb10, hrz⟩
          have hrz0 := hrz
          obtain ⟨za, zc, rfl, -⟩ := hrz0
          have hyw := (Y4.below hb10).sz
          have T5 := (T4.below hb10).alloc (.cells #[.string Z, .slice za Q.length zc] 25)
          have Y5 := (Y4.below hb10).alloc (.cells #[.string Z, .slice za Q.length zc] 25)
          have Z5 := Bx.new (t := Z) hrz
          clear hb10 T4 Y4 hrz
          have hc2 := Y5.a.cell 0 rfl
          have hc3 := Y5.a.cell 1 rfl
          have hc4 := Z5.a.cell 0 rfl
          have hc5 := Z5.a.cell 1 rfl
          go_wp2_with fail
          refine (ref06_Same w10.heap.size Z Z (.slice ya Q.length yc) (.slice za Q.length zc) Q Q _ (Y5.r.mono hyw) Z5.r Z5.sz hQ6 hQ6).mono ?_
          rw [hsm2]
          rintro e w11 ⟨rfl, hb11⟩
          replace T5 := T5.below hb11
          go_wp2_with fail
          refine (law06_wakes _).mono ?_
          rintro e w9 ⟨rfl, hb9⟩
          go_wp2_with fail
          go_ret
          exact ⟨rfl, bt T5.bl hb9⟩
end Go.Proofs.Ytjemlaiciacnpaa
