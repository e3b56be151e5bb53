/-
  The walk of utf16.Decode.
-/
import Derived.Test.YtppabccedmdajaaUtA
import Derived.Test.YtppabccedmdajaaBd
import Derived.Test.YtppabccedmdajaaU8B
import Derived.Deep.Cut
namespace Go.Proofs.Ytppabccedmdajaa
open Go.RowKit
theorem u16_and1023 (n : Int) (h0 : 0 ≤ n) (h1 : n < 65536) : bits .and .u16 n 1023 = n % 1024 := by
  have key : (BitVec.ofInt 16 n &&& BitVec.ofInt 16 1023).toNat = n.toNat % 1024 := by
    have e : (BitVec.ofInt 16 1023).toNat = 2 ^ 10 - 1 := by decide
    rw [BitVec.toNat_and, BitVec.toNat_ofInt, e, Nat.and_two_pow_sub_one_eq_mod]
    congr 1
    omega
  show IntKind.u16.wrap ((BitVec.ofInt 16 n &&& BitVec.ofInt 16 1023).toNat : Nat) = n % 1024
  rw [key, IntKind.wrap_u16]
  omega
/-- within Decode: the builder in block b holds the text of out, the row vb the places bad. -/
structure DIn (w wr : World) (b : Nat) (out : List Int) (v : Value) (bad : List Int) (vb : Value) : Prop where
  bd : BdAt wr b (b + 1) v (encAll out)
  own : wr.ownsRow (b + 1) 3 1 vb bad.length (bad.map (Value.int .i64))
  bl : Below b w wr
  nil : out = [] → v = .slice none 0 0
  sz : b + 1 ≤ wr.heap.size
  sc : scAll out = true
theorem BdAt.below {w w' : World} {b base : Nat} {v : Value} {xs : List Int} (h : BdAt w b base v xs) (hs : base ≤ w.heap.size) (hb : Below w.heap.size w w') : BdAt w' b base v xs := by
  obtain ⟨p, hp, hbk⟩ := h.blk
  have := h.lt
  exact ⟨⟨p, hp, (hb.block b (by omega)).trans hbk⟩, own_below h.own hb (Nat.le_refl _), h.lt⟩
theorem DIn.below {w wr wx : World} {b : Nat} {out : List Int} {v : Value} {bad : List Int} {vb : Value} (q : DIn w wr b out v bad vb) (hb : Below wr.heap.size wr wx) : DIn w wx b out v bad vb :=
  ⟨q.bd.below q.sz hb, own_below q.own hb (Nat.le_refl _), q.bl.trans (hb.mono (by have := q.sz; omega)), q.nil, Nat.le_trans q.sz hb.size, q.sc⟩
theorem DIn.dn {w wr : World} {b : Nat} {out : List Int} {v : Value} {bad : List Int} {vb : Value} (q : DIn w wr b out v bad vb) (n : Nat) : DIn w (wr.drewN n) b out v bad vb :=
  q.below ⟨rfl, rfl, rfl, Nat.le_refl _, fun _ _ => rfl⟩
theorem DIn.wrong {w wr : World} {b : Nat} {out : List Int} {v : Value} {bad : List Int} {vb : Value} (q : DIn w wr b out v bad vb) (x : Int) (hn : bad.length ≤ 1000000) :
    ∃ vb' w', (Builtin.append_ #[24, 24] 24 #[vb, .slice (some ⟨wr.heap.size, 0, none⟩) 1 1]).run Try.prog (wr.alloc (.cells #[.int .i64 x] 3)) = .ok vb' w' ∧ DIn w w' b out v (bad ++ [x]) vb' := by
  obtain ⟨vb', w', h1, h2, h3⟩ := app_int_g wr (b + 1) vb bad.length bad q.own x (by omega) q.sz
  have hba := (Below.refl wr.heap.size wr).alloc (Nat.le_refl _) (.cells #[.int .i64 x] 3)
  have q1 := q.below hba
  have hown1 := q1.own
  have hb4 := ownBelow hown1 h3 (Nat.le_refl _) q1.sz
  obtain ⟨p, hp, hbk⟩ := q1.bd.blk
  refine ⟨vb', w', h1, ⟨⟨⟨p, hp, (hb4.block b (Nat.lt_succ_self b)).trans hbk⟩, rows_apart hown1 q1.bd.own (by decide) h3, Nat.lt_succ_self b⟩, ?_, q1.bl.trans (hb4.mono (Nat.le_succ b)), q.nil, Nat.le_trans q1.sz hb4.size, q.sc⟩⟩
  rw [List.length_append]
  exact h2
theorem nums_encS (r : Int) : nums (encS r) = encN r := encS_nums r
theorem utf16_dput (r : Int) (hr : isSc r = true) (w wr : World) (b : Nat) (out : List Int) (v : Value) (bad : List Int) (vb : Value) (q : DIn w wr b out v bad vb) (hn : out.length ≤ 1000000) :
    Calls Try.prog 20 #[.int .i64 r, .pointer (some ⟨b, 0, none⟩)] wr fun e w' => e = .returned (.tuple #[]) ∧ ∃ v', DIn w w' b (out ++ [r]) v' bad vb := by
  have hl := encAll_len out
  have hl2 := encN_len r
  go_enter Try.func20, Try.ntmps20
  go_wp2_with fail
  refine (utf8_Put r _).mono ?_
  rintro e w1 ⟨rfl, hb1⟩
  have q1 := q.below hb1
  go_wp2_with fail
  refine (bd_write b (b + 1) v (encAll out) (encS r) _ q1.bd (by rw [encS_size]; omega) q1.sz).mono ?_
  rintro e w2 ⟨rfl, ⟨v', h2⟩, h3, h4, h5⟩
  have h6 := h5 _ _ _ _ _ _ (by decide) (Nat.lt_succ_self b) q1.own
  rw [nums_encS] at h2
  go_wp2_with fail
  go_end0
  refine ⟨rfl, v', ⟨?_, h6, q1.bl.trans h3, fun e => by simp at e, h4, ?_⟩⟩
  · rw [encAll_snoc]
    exact h2
  · rw [scAll_snoc, q.sc, hr]
    rfl
theorem isHi_iff (u : Int) : isHi u = true ↔ 55296 ≤ u ∧ u ≤ 56319 := by unfold isHi; exact decide_eq_true_iff
theorem isLo_iff (u : Int) : isLo u = true ↔ 56320 ≤ u ∧ u ≤ 57343 := by unfold isLo; exact decide_eq_true_iff
set_option maxRecDepth 100000 in
set_option maxHeartbeats 8000000 in
theorem utf16_Decode (big : Bool) (s : ByteArray) (w : World) (hs : s.size ≤ 100000) :
    Calls Try.prog 9 #[.string s, .bool big] w fun e w' => ∃ vb, e = .returned (.tuple #[.string (textS (dW big 0 (nums s)).1), vb]) ∧ Reads w'.heap.size w' vb ((dW big 0 (nums s)).2.map (Value.int .i64)) ∧ Below w.heap.size w w' := by
  obtain ⟨D, hD⟩ : ∃ D, dW big 0 (nums s) = D := ⟨_, rfl⟩
  rw [hD]
  have HD := Lib.hid hD
  clear hD
  obtain ⟨b, hb⟩ : ∃ b, w.heap.size = b := ⟨_, rfl⟩
  have HB := Lib.hid hb
  have q0 : DIn w (w.alloc (.cells #[.pointer none, .slice none 0 0] 40)) b [] (.slice none 0 0) [] (.slice none 0 0) := by
    rw [← hb]
    exact ⟨⟨⟨_, .inl rfl, heap_alloc_new w _⟩, World.ownsRow_nil _ _ _ _, Nat.lt_succ_self _⟩, World.ownsRow_nil _ _ _ _, (Below.refl _ w).alloc (Nat.le_refl _) _, fun _ => rfl, by simp, rfl⟩
  go_enter Try.func9, Try.ntmps9
  go_wp2_with fail
  generalize w.alloc (.cells #[.pointer none, .slice none 0 0] 40) = w1 at q0 ⊢
  go_loopw [5, 8] (fun vb i wr => ∃ (k : Nat) (out bad : List Int) (v : Value), i = .int .i64 k ∧ k ≤ s.size ∧ out.length ≤ k ∧ bad.length ≤ k ∧ out ++ (dW big k ((nums s).drop k)).1 = D.1 ∧ bad ++ (dW big k ((nums s).drop k)).2 = D.2 ∧ DIn w wr b out v bad vb) (fun _ i _ => s.size - (intOf i).toNat)
  case atStart => exact ⟨0, [], [], _, rfl, by omega, by simp, by simp, by rw [List.drop_zero, HD.out]; rfl, by rw [List.drop_zero, HD.out]; rfl, q0⟩
  case round =>
    obtain ⟨k, out, bad, v, rfl, hk, hol, hbl, ho, hbd, q⟩ := hrel
    by_cases hlt : k + 1 < s.size
    · have hd1 := decide_eq_true (show (k : Int) + 1 < (s.size : Int) by omega)
      have hdr := nums_drop s k (by omega)
      have hdr1 := nums_drop s (k + 1) hlt
      obtain ⟨x, hx⟩ : ∃ x, s[k].toNat = x := ⟨_, rfl⟩
      obtain ⟨y, hy⟩ : ∃ y, s[k + 1].toNat = y := ⟨_, rfl⟩
      have hx256 : x < 256 := by rw [← hx]; exact s[k].toBitVec.isLt
      have hy256 : y < 256 := by rw [← hy]; exact s[k + 1].toBitVec.isLt
      obtain ⟨u, hu⟩ : ∃ u, unitN big x y = u := ⟨_, rfl⟩
      have hu0 := unit_lo big (x := (x : Int)) (y := (y : Int)) (by omega) (by omega)
      rw [hu] at hu0
      obtain ⟨hu1, hu2⟩ := hu0
      have HU := fun w => utf16_unit big s k k rfl w hlt (by omega) x y hx hy u hu
      rw [hx] at hdr
      rw [hy] at hdr1
      rw [hdr, hdr1] at ho hbd
      clear hdr hdr1
      by_cases h4 : k + 3 < s.size
      · have hd3 := decide_eq_true (show (k : Int) + 3 < (s.size : Int) by omega)
        have hdr2 := nums_drop s (k + 2) (by omega)
        have hdr3 := nums_drop s (k + 3) h4
        obtain ⟨p, hp⟩ : ∃ p, s[k + 2].toNat = p := ⟨_, rfl⟩
        obtain ⟨r, hr⟩ : ∃ r, s[k + 3].toNat = r := ⟨_, rfl⟩
        have hp256 : p < 256 := by rw [← hp]; exact s[k + 2].toBitVec.isLt
        have hr256 : r < 256 := by rw [← hr]; exact s[k + 3].toBitVec.isLt
        obtain ⟨lv, hlv⟩ : ∃ lv, unitN big p r = lv := ⟨_, rfl⟩
        have hlv0 := unit_lo big (x := (p : Int)) (y := (r : Int)) (by omega) (by omega)
        rw [hlv] at hlv0
        obtain ⟨hlv1, hlv2⟩ := hlv0
        have HU2 := fun w => utf16_unit big s (k + 2) ((k : Int) + 2) (by omega) w h4 (by omega) p r hp hr lv hlv
        rw [hp] at hdr2
        rw [hr] at hdr3
        have hd2 : ((x : Int) :: (y : Int) :: (nums s).drop (k + 1 + 1)).drop 2 = (nums s).drop (k + 2) := rfl
        have hstA : ¬ (55296 ≤ u ∧ u ≤ 57343) → step16 big x y ((nums s).drop (k + 1 + 1)) = (u, 2, true) := by
          intro h
          unfold step16
          rw [hu, if_neg (fun e => h (by have := (isHi_iff u).1 e; omega)), if_neg (fun e => h (by have := (isLo_iff u).1 e; omega))]
        have hstB : isHi u = true → isLo lv = true → step16 big x y ((nums s).drop (k + 1 + 1)) = (pairN u lv, 4, true) := by
          intro h1 h2
          rw [show k + 1 + 1 = k + 2 from rfl, hdr2, hdr3]
          unfold step16
          simp only
          rw [hu, hlv, if_pos h1, if_pos h2]
        have hBk : isLo lv = true → k + 4 ≤ s.size ∧ ((x : Int) :: (y : Int) :: (nums s).drop (k + 1 + 1)).drop 4 = (nums s).drop (k + 4) := by
          intro _
          refine ⟨by omega, ?_⟩
          rw [show k + 1 + 1 = k + 2 from rfl, hdr2, hdr3]
          rfl
        have hstC : (55296 ≤ u ∧ u ≤ 57343) → ¬ (isHi u = true ∧ isLo lv = true) → step16 big x y ((nums s).drop (k + 1 + 1)) = (65533, 2, false) := by
          intro h h2
          rw [show k + 1 + 1 = k + 2 from rfl, hdr2, hdr3]
          unfold step16
          simp only
          rw [hu, hlv]
          by_cases h3 : isHi u = true
          · rw [if_pos h3, if_neg (fun e => h2 ⟨h3, e⟩)]
          · rw [if_neg h3, if_pos ((isLo_iff u).2 (by have : ¬ (55296 ≤ u ∧ u ≤ 56319) := fun e => h3 ((isHi_iff u).2 e); omega))]
        clear hdr2 hdr3 hp hr hlv hx hy
        go_wp2_with fail
        refine (HU _).mono ?_
        rintro e w2 ⟨rfl, m1, rfl⟩
        go_wp2_with fail
        refine (HU2 _).mono ?_
        rintro e w3 ⟨rfl, m2, rfl⟩
        have q := q.dn (m1 + m2)
        clear HU HU2 hu
        by_cases hsur : 55296 ≤ u ∧ u ≤ 57343
        · have p1 : (u / 2048 != 27) = false := by simp; omega
          by_cases hB : isHi u = true ∧ isLo lv = true
          · obtain ⟨hB1, hB2⟩ := hB
            have hB1' := (isHi_iff u).1 hB1
            have hB2' := (isLo_iff lv).1 hB2
            have ST := hstB hB1 hB2
            have hpn : pairN u lv = 65536 + u % 1024 * 1024 + lv % 1024 := by unfold pairN; omega
            have hsc : isSc (65536 + u % 1024 * 1024 + lv % 1024) = true := by unfold isSc; exact decide_eq_true (by omega)
            have a1 := u16_and1023 u hu1 hu2
            have a2 := u16_and1023 lv (by omega) (by omega)
            obtain ⟨um, hum⟩ : ∃ um, u % 1024 = um := ⟨_, rfl⟩
            obtain ⟨lm, hlm⟩ : ∃ lm, lv % 1024 = lm := ⟨_, rfl⟩
            have um1 : 0 ≤ um := by omega
            have um2 : um < 1024 := by omega
            have lm1 : 0 ≤ lm := by omega
            have lm2 : lm < 1024 := by omega
            rw [hum] at a1
            rw [hlm] at a2
            rw [hum, hlm] at hpn hsc
            have p2 : (u / 1024 == 54) = true := by simp; omega
            have p3 : (lv / 1024 == 55) = true := by simp; omega
            obtain ⟨hk4, hd4⟩ := hBk hB2
            rw [dW_step big k x y _ ST, hpn] at ho hbd
            simp only [if_true] at ho hbd
            rw [hd4] at ho hbd
            have HO := Lib.hid ho
            have HBD := Lib.hid hbd
            clear ho hbd hB1 hB2 hB1' hB2' ST hum hlm hpn hsur hstB hBk hstC hstA
            go_wp2_with fail
            refine (utf16_dput (65536 + um * 1024 + lm) hsc w _ b out v bad u5 q (by omega)).mono ?_
            rintro e w9 ⟨rfl, v', q9⟩
            go_wp2_with fail
            exact ⟨⟨k + 4, out ++ [65536 + um * 1024 + lm], bad, v', by go_num, by omega, by simp; omega, by omega, by rw [List.append_assoc]; exact HO.out, HBD.out, q9⟩, by simp [intOf]; omega⟩
          · have ST := hstC hsur hB
            rw [dW_step big k x y _ ST] at ho hbd
            simp only [if_neg (show ¬ (false = true) by decide)] at ho hbd
            rw [hd2] at ho hbd
            have HO := Lib.hid ho
            have HBD := Lib.hid hbd
            by_cases hH : isHi u = true
            · have hH' := (isHi_iff u).1 hH
              have hL : ¬ (56320 ≤ lv ∧ lv ≤ 57343) := fun e => hB ⟨hH, (isLo_iff lv).2 e⟩
              have p2 : (u / 1024 == 54) = true := by simp; omega
              have p3 : (lv / 1024 == 55) = false := by simp; omega
              clear ho hbd hB ST hsur hstB hBk hstC hstA hH hH' hL
              go_wp2_with fail
              refine (utf16_dput 65533 (by decide) w _ b out v bad u5 q (by omega)).mono ?_
              rintro e w9 ⟨rfl, v', q9⟩
              obtain ⟨vb', w10, hr, q10⟩ := q9.wrong (k : Int) (by omega)
              have HA := Lib.hid hr
              clear hr
              go_wp2_with (at_builtin; refine wpList_append_run rfl _ _ _ _ rfl _ _ rfl rfl _ _ HA.out ?_)
              exact ⟨⟨k + 2, out ++ [65533], bad ++ [(k : Int)], v', by go_num, by omega, by simp; omega, by simp; omega, by rw [List.append_assoc]; exact HO.out, by rw [List.append_assoc]; exact HBD.out, q10⟩, by simp [intOf]; omega⟩
            · have hH' : ¬ (55296 ≤ u ∧ u ≤ 56319) := fun e => hH ((isHi_iff u).2 e)
              have p2 : (u / 1024 == 54) = false := by simp; omega
              clear ho hbd hB ST hsur hstB hBk hstC hstA hH hH'
              go_wp2_with fail
              refine (utf16_dput 65533 (by decide) w _ b out v bad u5 q (by omega)).mono ?_
              rintro e w9 ⟨rfl, v', q9⟩
              obtain ⟨vb', w10, hr, q10⟩ := q9.wrong (k : Int) (by omega)
              have HA := Lib.hid hr
              clear hr
              go_wp2_with (at_builtin; refine wpList_append_run rfl _ _ _ _ rfl _ _ rfl rfl _ _ HA.out ?_)
              exact ⟨⟨k + 2, out ++ [65533], bad ++ [(k : Int)], v', by go_num, by omega, by simp; omega, by simp; omega, by rw [List.append_assoc]; exact HO.out, by rw [List.append_assoc]; exact HBD.out, q10⟩, by simp [intOf]; omega⟩
        · have p1 : (u / 2048 != 27) = true := by simp; omega
          have ST := hstA hsur
          have hsc : isSc u = true := by unfold isSc; exact decide_eq_true (by omega)
          rw [dW_step big k x y _ ST] at ho hbd
          simp only [if_true] at ho hbd
          rw [hd2] at ho hbd
          have HO := Lib.hid ho
          have HBD := Lib.hid hbd
          clear ho hbd ST hsur hstB hBk hstC hstA
          go_wp2_with fail
          refine (utf16_dput u hsc w _ b out v bad u5 q (by omega)).mono ?_
          rintro e w9 ⟨rfl, v', q9⟩
          go_wp2_with fail
          exact ⟨⟨k + 2, out ++ [u], bad, v', by go_num, by omega, by simp; omega, by omega, by rw [List.append_assoc]; exact HO.out, HBD.out, q9⟩, by simp [intOf]; omega⟩
      · have hd3 := decide_eq_false (show ¬ (k : Int) + 3 < (s.size : Int) by omega)
        have hd2 : ((x : Int) :: (y : Int) :: (nums s).drop (k + 1 + 1)).drop 2 = (nums s).drop (k + 2) := rfl
        have hsh : ∀ p q r, (nums s).drop (k + 1 + 1) ≠ p :: q :: r := by
          intro p q r e
          have := congrArg List.length e
          rw [List.length_drop, nums_length] at this
          simp only [List.length_cons] at this
          omega
        have hstA : ¬ (55296 ≤ u ∧ u ≤ 57343) → step16 big x y ((nums s).drop (k + 1 + 1)) = (u, 2, true) := by
          intro h
          unfold step16
          rw [hu, if_neg (fun e => h (by have := (isHi_iff u).1 e; omega)), if_neg (fun e => h (by have := (isLo_iff u).1 e; omega))]
        have hstC : (55296 ≤ u ∧ u ≤ 57343) → step16 big x y ((nums s).drop (k + 1 + 1)) = (65533, 2, false) := by
          intro h
          unfold step16
          rw [hu]
          by_cases h3 : isHi u = true
          · rw [if_pos h3]
            cases hdd : (nums s).drop (k + 1 + 1) with
            | nil => rfl
            | cons p r =>
              cases r with
              | nil => rfl
              | cons q r => exact absurd hdd (hsh p q r)
          · rw [if_neg h3, if_pos ((isLo_iff u).2 (by have : ¬ (55296 ≤ u ∧ u ≤ 56319) := fun e => h3 ((isHi_iff u).2 e); omega))]
        clear hsh hx hy
        go_wp2_with fail
        refine (HU _).mono ?_
        rintro e w2 ⟨rfl, m1, rfl⟩
        have q := q.dn m1
        clear HU hu
        by_cases hsur : 55296 ≤ u ∧ u ≤ 57343
        · have p1 : (u / 2048 != 27) = false := by simp; omega
          have ST := hstC hsur
          rw [dW_step big k x y _ ST] at ho hbd
          simp only [if_neg (show ¬ (false = true) by decide)] at ho hbd
          rw [hd2] at ho hbd
          have HO := Lib.hid ho
          have HBD := Lib.hid hbd
          by_cases hH : 55296 ≤ u ∧ u ≤ 56319
          · have p2 : (u / 1024 == 54) = true := by simp; omega
            have p3 : ((0 : Int) / 1024 == 55) = false := by decide
            clear ho hbd ST hsur hstC hstA hH
            go_wp2_with fail
            refine (utf16_dput 65533 (by decide) w _ b out v bad u5 q (by omega)).mono ?_
            rintro e w9 ⟨rfl, v', q9⟩
            obtain ⟨vb', w10, hr, q10⟩ := q9.wrong (k : Int) (by omega)
            have HA := Lib.hid hr
            clear hr
            go_wp2_with (at_builtin; refine wpList_append_run rfl _ _ _ _ rfl _ _ rfl rfl _ _ HA.out ?_)
            exact ⟨⟨k + 2, out ++ [65533], bad ++ [(k : Int)], v', by go_num, by omega, by simp; omega, by simp; omega, by rw [List.append_assoc]; exact HO.out, by rw [List.append_assoc]; exact HBD.out, q10⟩, by simp [intOf]; omega⟩
          · have p2 : (u / 1024 == 54) = false := by simp; omega
            clear ho hbd ST hsur hstC hstA hH
            go_wp2_with fail
            refine (utf16_dput 65533 (by decide) w _ b out v bad u5 q (by omega)).mono ?_
            rintro e w9 ⟨rfl, v', q9⟩
            obtain ⟨vb', w10, hr, q10⟩ := q9.wrong (k : Int) (by omega)
            have HA := Lib.hid hr
            clear hr
            go_wp2_with (at_builtin; refine wpList_append_run rfl _ _ _ _ rfl _ _ rfl rfl _ _ HA.out ?_)
            exact ⟨⟨k + 2, out ++ [65533], bad ++ [(k : Int)], v', by go_num, by omega, by simp; omega, by simp; omega, by rw [List.append_assoc]; exact HO.out, by rw [List.append_assoc]; exact HBD.out, q10⟩, by simp [intOf]; omega⟩
        · have p1 : (u / 2048 != 27) = true := by simp; omega
          have ST := hstA hsur
          have hsc : isSc u = true := by unfold isSc; exact decide_eq_true (by omega)
          rw [dW_step big k x y _ ST] at ho hbd
          simp only [if_true] at ho hbd
          rw [hd2] at ho hbd
          have HO := Lib.hid ho
          have HBD := Lib.hid hbd
          clear ho hbd ST hsur hstC hstA
          go_wp2_with fail
          refine (utf16_dput u hsc w _ b out v bad u5 q (by omega)).mono ?_
          rintro e w9 ⟨rfl, v', q9⟩
          go_wp2_with fail
          exact ⟨⟨k + 2, out ++ [u], bad, v', by go_num, by omega, by simp; omega, by omega, by rw [List.append_assoc]; exact HO.out, HBD.out, q9⟩, by simp [intOf]; omega⟩
    · have hd1 := decide_eq_false (show ¬ (k : Int) + 1 < (s.size : Int) by omega)
      by_cases hk1 : k < s.size
      · have hd5 := decide_eq_true (show (k : Int) < (s.size : Int) by omega)
        have hk2 : s.size = k + 1 := by omega
        obtain ⟨x, hx⟩ : ∃ x : Int, (nums s).drop k = [x] := ⟨_, by rw [nums_drop s k hk1, nums_drop_end s (k + 1) (by omega)]⟩
        rw [hx, dW_one] at ho hbd
        have HO := Lib.hid ho
        have HBD := Lib.hid hbd
        clear ho hbd hx hk2
        go_wp2_with fail
        refine (utf16_dput 65533 (by decide) w _ b out v bad u5 q (by omega)).mono ?_
        rintro e w9 ⟨rfl, v', q9⟩
        obtain ⟨vb', w10, hr, q10⟩ := q9.wrong (k : Int) (by omega)
        have HA := Lib.hid hr
        clear hr
        have hbb : (bad ++ [(k : Int)]).length ≤ 1000000 := by simp; omega
        obtain ⟨bad2, hbad2⟩ : ∃ bad2, bad ++ [(k : Int)] = bad2 := ⟨_, rfl⟩
        obtain ⟨out2, hout2⟩ : ∃ out2, out ++ [(65533 : Int)] = out2 := ⟨_, rfl⟩
        rw [hbad2] at q10 HBD hbb
        rw [hout2] at q10 HO
        clear hbad2 hout2 q9
        obtain ⟨va9, vl9, vc9, rfl⟩ := own_slice q10.own
        go_upto_region 20 with (at_builtin; refine wpList_append_run rfl _ _ _ _ rfl _ _ rfl rfl _ _ HA.out ?_)
        cases hout : out2 with
        | nil =>
          have hv := q10.nil hout
          have qb := q10.bd
          rw [hout, hv] at qb
          have HT := Lib.hid (show textS D.1 = ⟨#[]⟩ by rw [← HO.out, hout]; rfl)
          go_wp2_with fail
          refine (bd_string_nil b (b + 1) _ qb).mono ?_
          rintro e w11 ⟨rfl, hb1, hb2⟩
          have hrow := hb2 _ _ _ _ _ _ (by decide) (Nat.lt_succ_self b) q10.own
          go_wp2_with fail
          go_ret2
          refine ⟨_, by rw [HT.out]; rfl, ?_, by rw [HB.out]; exact q10.bl.trans hb1⟩
          rw [← HBD.out]
          exact Reads.of_own hrow (by unfold maxLen; first | omega | (simp; omega))
        | cons o1 o2 =>
          have hne : encAll (out2) ≠ [] := by
            intro e
            have h1 := encN_ne (r := o1) (scAll_mem q10.sc (by rw [hout]; exact List.mem_cons_self ..))
            rw [hout, encAll_cons] at e
            exact h1 (List.append_eq_nil_iff.1 e).1
          have HT := Lib.hid (show textS D.1 = strOfNums (encAll (out2)) by rw [← HO.out]; exact textS_yes q10.sc)
          clear hout
          go_wp2_with fail
          refine (bd_string b (b + 1) _ _ _ q10.bd (isBs_encAll _) hne).mono ?_
          rintro e w11 ⟨rfl, hb1, hb2⟩
          have hrow := hb2 _ _ _ _ _ _ (by decide) (Nat.lt_succ_self b) q10.own
          go_wp2_with fail
          go_ret2
          refine ⟨_, by rw [HT.out]; rfl, ?_, by rw [HB.out]; exact q10.bl.trans hb1⟩
          rw [← HBD.out]
          exact Reads.of_own hrow (by unfold maxLen; first | omega | (simp; omega))
      · have hd5 := decide_eq_false (show ¬ (k : Int) < (s.size : Int) by omega)
        rw [nums_drop_end s k (by omega), dW_nil] at ho hbd
        simp only [List.append_nil] at ho hbd
        have HO := Lib.hid ho
        have HBD := Lib.hid hbd
        have hbb : bad.length ≤ 1000000 := by omega
        clear ho hbd
        obtain ⟨va9, vl9, vc9, rfl⟩ := own_slice q.own
        cases hout : out with
        | nil =>
          have hv := q.nil hout
          have qb := q.bd
          rw [hout, hv] at qb
          have HT := Lib.hid (show textS D.1 = ⟨#[]⟩ by rw [← HO.out, hout]; rfl)
          go_wp2_with fail
          refine (bd_string_nil b (b + 1) _ qb).mono ?_
          rintro e w11 ⟨rfl, hb1, hb2⟩
          have hrow := hb2 _ _ _ _ _ _ (by decide) (Nat.lt_succ_self b) q.own
          go_wp2_with fail
          go_ret2
          refine ⟨_, by rw [HT.out]; rfl, ?_, by rw [HB.out]; exact q.bl.trans hb1⟩
          rw [← HBD.out]
          exact Reads.of_own hrow (by unfold maxLen; first | omega | (simp; omega))
        | cons o1 o2 =>
          have hne : encAll (out) ≠ [] := by
            intro e
            have h1 := encN_ne (r := o1) (scAll_mem q.sc (by rw [hout]; exact List.mem_cons_self ..))
            rw [hout, encAll_cons] at e
            exact h1 (List.append_eq_nil_iff.1 e).1
          have HT := Lib.hid (show textS D.1 = strOfNums (encAll (out)) by rw [← HO.out]; exact textS_yes q.sc)
          clear hout
          go_wp2_with fail
          refine (bd_string b (b + 1) _ _ _ q.bd (isBs_encAll _) hne).mono ?_
          rintro e w11 ⟨rfl, hb1, hb2⟩
          have hrow := hb2 _ _ _ _ _ _ (by decide) (Nat.lt_succ_self b) q.own
          go_wp2_with fail
          go_ret2
          refine ⟨_, by rw [HT.out]; rfl, ?_, by rw [HB.out]; exact q.bl.trans hb1⟩
          rw [← HBD.out]
          exact Reads.of_own hrow (by unfold maxLen; first | omega | (simp; omega))
end Go.Proofs.Ytppabccedmdajaa
