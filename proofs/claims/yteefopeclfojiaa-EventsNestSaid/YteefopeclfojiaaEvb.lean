/-
  Layer 16: the law EventsPut.
-/
import Derived.Test.YteefopeclfojiaaEva
namespace Go.Proofs.Yteefopeclfojiaa
open Go.RowKit
/-- no text is empty, no two stand side by side. -/
def NormE (l : List Evt) : Prop := (∀ (k : Nat) (x : Evt), l[k]? = some x → x.k = 2 → emB x.tx = false) ∧ ∀ (k : Nat) (x y : Evt), l[k]? = some x → l[k + 1]? = some y → ¬ (x.k = 2 ∧ y.k = 2)
theorem emB_app {a b : ByteArray} (h : emB b = false) : emB (a ++ b) = false := by
  unfold emB at *
  rw [ByteArray.toList_eq] at *
  cases hb : b.data.toList with
  | nil => rw [hb] at h; cases h
  | cons x r => simp [hb]
theorem normE_snoc {l : List Evt} {x : Evt} (h : NormE l) (h1 : x.k = 2 → emB x.tx = false) (h2 : x.k = 2 → ∀ e, l.getLast? = some e → e.k ≠ 2) : NormE (l ++ [x]) := by
  refine ⟨fun k y hy hk => ?_, fun k y z hy hz => ?_⟩
  · rcases Nat.lt_or_ge k l.length with hl | hl
    · rw [List.getElem?_append_left hl] at hy
      exact h.1 k y hy hk
    · rw [List.getElem?_append_right hl] at hy
      have : k - l.length = 0 := by
        have := (List.getElem?_eq_some_iff.1 hy).1
        simp at this
        omega
      rw [this] at hy
      simp at hy
      subst hy
      exact h1 hk
  · rcases Nat.lt_or_ge (k + 1) l.length with hl | hl
    · rw [List.getElem?_append_left (by omega)] at hy
      rw [List.getElem?_append_left hl] at hz
      exact h.2 k y z hy hz
    · rw [List.getElem?_append_right hl] at hz
      have h3 := (List.getElem?_eq_some_iff.1 hz).1
      simp at h3
      have h4 : k + 1 = l.length := by omega
      rw [show k + 1 - l.length = 0 by omega] at hz
      simp at hz
      subst hz
      rw [List.getElem?_append_left (by omega)] at hy
      rintro ⟨h5, h6⟩
      exact h2 h6 y (by rw [List.getLast?_eq_getElem?, ← h4]; exact hy) h5
theorem normE_init {l : List Evt} {x : Evt} (h : NormE (l ++ [x])) : NormE l ∧ (x.k = 2 → emB x.tx = false) ∧ (x.k = 2 → ∀ e, l.getLast? = some e → e.k ≠ 2) := by
  refine ⟨⟨fun k y hy hk => h.1 k y ?_ hk, fun k y z hy hz => h.2 k y z ?_ ?_⟩, fun hk => h.1 l.length x (by simp) hk, fun hk e he h2 => ?_⟩
  · rw [List.getElem?_append_left (List.getElem?_eq_some_iff.1 hy).1]; exact hy
  · rw [List.getElem?_append_left (List.getElem?_eq_some_iff.1 hy).1]; exact hy
  · rw [List.getElem?_append_left (List.getElem?_eq_some_iff.1 hz).1]; exact hz
  · rw [List.getLast?_eq_getElem?] at he
    have hl := (List.getElem?_eq_some_iff.1 he).1
    refine h.2 (l.length - 1) e x ?_ ?_ ⟨h2, hk⟩
    · rw [List.getElem?_append_left hl]; exact he
    · rw [show l.length - 1 + 1 = l.length by omega]; simp
theorem putP_norm {l : List Evt} {x : Evt} (h : NormE l) : NormE (putP l x) := by
  unfold putP
  split
  · rename_i hk
    split
    · exact h
    · rename_i hem
      have hem : emB x.tx = false := by simpa using hem
      split
      · rename_i hl
        exact normE_snoc h (fun _ => hem) fun _ e he => by rw [hl] at he; cases he
      · rename_i e he
        obtain ⟨ini, rfl⟩ := List.getLast?_eq_some_iff.1 he
        obtain ⟨n1, n2, n3⟩ := normE_init h
        split
        · rename_i hek
          rw [List.dropLast_concat]
          exact normE_snoc n1 (fun _ => emB_app hem) fun _ => n3 hek
        · rename_i hek
          exact normE_snoc h (fun _ => hem) fun _ e' he' => by
            rw [he] at he'
            injection he' with he'
            rw [← he']
            exact hek
  · rename_i hk
    exact normE_snoc h (fun h => absurd h hk) fun h => absurd h hk
theorem putP_id {l : List Evt} {x : Evt} (h : NormE (l ++ [x])) : putP l x = l ++ [x] := by
  obtain ⟨n1, n2, n3⟩ := normE_init h
  unfold putP
  split
  · rename_i hk
    rw [if_neg (by rw [n2 hk]; decide)]
    split
    · rfl
    · rename_i e he
      rw [if_neg (n3 hk e he)]
  · rfl
/-- one by one put into nothing. -/
def putA (l : List Evt) : List Evt := l.foldl putP []
theorem putA_snoc (l : List Evt) (k : Nat) (x : Evt) (h : l[k]? = some x) : putA (l.take (k + 1)) = putP (putA (l.take k)) x := by
  unfold putA
  rw [List.take_add_one, h, List.foldl_append]
  rfl
theorem putA_norm : ∀ (l : List Evt) (m : List Evt), NormE m → NormE (l.foldl putP m)
  | [], _, h => h
  | _ :: r, _, h => putA_norm r _ (putP_norm h)
theorem putA_id {l : List Evt} (h : NormE l) : ∀ k, k ≤ l.length → putA (l.take k) = l.take k
  | 0, _ => by simp [putA]
  | k + 1, hk => by
    obtain ⟨x, hx⟩ : ∃ x, l[k]? = some x := ⟨_, List.getElem?_eq_getElem (by omega)⟩
    have htk : l.take (k + 1) = l.take k ++ [x] := by rw [List.take_add_one, hx]; rfl
    rw [putA_snoc l k x hx, putA_id h k (by omega), htk]
    refine putP_id ?_
    rw [← htk]
    have hp : l = l.take (k + 1) ++ l.drop (k + 1) := (List.take_append_drop _ _).symm
    refine ⟨fun j y hy hk => h.1 j y ?_ hk, fun j y z hy hz => h.2 j y z ?_ ?_⟩
    all_goals
      rw [hp, List.getElem?_append_left]
      · first | exact hy | exact hz
      · first | exact (List.getElem?_eq_some_iff.1 hy).1 | exact (List.getElem?_eq_some_iff.1 hz).1
theorem numsApp (x y : ByteArray) : nums (x ++ y) = nums x ++ nums y := by
  unfold nums
  rw [ByteArray.data_append, Array.toList_append, List.map_append]
theorem txsL_put (l : List Evt) (x : Evt) : txsL (putP l x) = txsL l ++ nums x.tx := by
  have ha : ∀ (a : List Evt) (y : Evt), txsL (a ++ [y]) = txsL a ++ nums y.tx := fun a y => by unfold txsL; rw [List.flatMap_append]; simp
  unfold putP
  split
  · split
    · rename_i hem
      have : nums x.tx = [] := by
        unfold emB at hem
        rw [ByteArray.toList_eq] at hem
        unfold nums
        have : x.tx.data.toList = [] := by simpa using hem
        rw [this]
        rfl
      rw [this, List.append_nil]
    · split
      · exact ha l x
      · rename_i e he
        split
        · obtain ⟨ini, rfl⟩ := List.getLast?_eq_some_iff.1 he
          rw [List.dropLast_concat, ha, ha, numsApp, List.append_assoc]
        · exact ha l x
  · exact ha l x
theorem putA_txs (l : List Evt) : ∀ m, txsL (l.foldl putP m) = txsL m ++ txsL l := by
  induction l with
  | nil => intro m; simp [txsL]
  | cons x r ih =>
    intro m
    rw [List.foldl_cons, ih, txsL_put, List.append_assoc]
    rfl
theorem putA_len (l : List Evt) : ∀ m, (l.foldl putP m).length ≤ m.length + l.length := by
  induction l with
  | nil => intro m; simp
  | cons x r ih =>
    intro m
    have h1 := ih (putP m x)
    have h2 := putP_len m x
    rw [List.foldl_cons, List.length_cons]
    omega
theorem putA_ats (l : List Evt) (M : Nat) (h : ∀ e ∈ l, e.at_.length ≤ M) : ∀ m, (∀ e ∈ m, e.at_.length ≤ M) → ∀ e ∈ l.foldl putP m, e.at_.length ≤ M := by
  induction l with
  | nil => intro m hm; exact hm
  | cons x r ih =>
    intro m hm
    rw [List.foldl_cons]
    exact ih (fun e he => h e (List.mem_cons_of_mem _ he)) _ (putP_ats hm (h x (List.mem_cons_self ..)))
theorem txsL_mem {l : List Evt} {e : Evt} (h : e ∈ l) : e.tx.size ≤ (txsL l).length := by
  obtain ⟨a, b, rfl⟩ := List.append_of_mem h
  unfold txsL
  rw [List.flatMap_append, List.flatMap_cons, List.length_append, List.length_append, nums_length]
  omega
/-- of events put one by one: how many they are at most, how long their texts. -/
theorem putA_small {es : List Evt} (h : GreatOk es) (k : Nat) : (putA (es.take k)).length ≤ 300 ∧ (∀ e ∈ putA (es.take k), e.at_.length ≤ 40) ∧ ∀ e ∈ putA (es.take k), e.tx.size ≤ 140737488355000 := by
  refine ⟨?_, ?_, fun e he => ?_⟩
  · have h1 := putA_len (es.take k) []
    have h2 := h.len
    rw [List.length_take] at h1
    unfold putA
    simp only [List.length_nil] at h1
    omega
  · exact putA_ats _ 40 (fun e he => h.ats e (List.mem_of_mem_take he)) [] (fun e he => by cases he)
  · have h1 := txsL_mem he
    unfold putA at h1
    rw [putA_txs] at h1
    have h2 := txsL_le es k
    have h3 := h.txs
    simp only [txsL, List.flatMap_nil, List.nil_append] at h1 h2 h3
    omega
theorem grow_adj {es : List Evt} : ∀ (l : List Evt) (i : Nat) (g gf : Gr), es.drop i = l → grun es i l g = some gf → ∀ (q : Nat) (y : Evt), i ≤ q → es[q]? = some y → y.k = 2 → ¬ (es[q - 1]?).map Evt.k = some 2
  | [], i, g, gf, hd, _, q, y, hq, hy, _ => by
    have h1 := (List.getElem?_eq_some_iff.1 hy).1
    have h2 : (es.drop i).length = 0 := by rw [hd]; rfl
    rw [List.length_drop] at h2
    omega
  | x :: r, i, g, gf, hd, h, q, y, hq, hy, hk => by
    rw [grun] at h
    obtain ⟨g1, h1, h2⟩ := Option.bind_eq_some_iff.1 h
    obtain ⟨hx, hd1⟩ := drop_head hd
    by_cases e : q = i
    · subst e
      rw [hx] at hy
      injection hy with hy
      subst hy
      obtain ⟨op, ends, deep⟩ := g
      obtain ⟨-, -, h3 | h3 | h3⟩ := gstep_iff.1 h1
      · omega
      · exact h3.2.1
      · omega
    · exact grow_adj r (i + 1) g1 gf hd1 h2 q y (by omega) hy hk
/-- whole events are put as they stand. -/
theorem whole_norm {es : List Evt} {g : Gr} (h : growP es = some g) : NormE es := by
  refine ⟨fun k x hx hk => ?_, fun k x y hx hy hh => ?_⟩
  · have h1 := growP_fld h x (List.mem_of_getElem? hx)
    unfold fldB at h1
    rw [if_pos hk] at h1
    simp only [Bool.and_eq_true, Bool.not_eq_true'] at h1
    exact h1.2
  · obtain ⟨h1, -, -⟩ := growP_run h
    refine grow_adj es 0 _ _ rfl h1 (k + 1) y (by omega) hy hh.2 ?_
    rw [Nat.add_sub_cancel, hx, ← hh.1]
    rfl
theorem evsR_nil (B : Nat) (w : World) : EvsR B w (.slice none 0 0) [] := ⟨[], ⟨none, 0, rfl, fun i u h => by simp [evsC] at h⟩, trivial⟩
theorem capR_nil : CapR (.slice none 0 0) 0 := ⟨none, 0, rfl, Nat.le_refl _, Nat.zero_le _⟩
set_option maxRecDepth 100000 in
set_option maxHeartbeats 16000000 in
theorem law_EventsPut (v : Value) (es : List Evt) (w : World) (hl : EvsIn w v es) :
    Calls Try.prog 6 #[v] w fun r w' => r = .returned (.bool true) ∧ Below w.heap.size w w' := by
  have hR := hl.r
  have hZ := hl.small
  have hn := hl.at_.n
  have hcap := hl.cap
  obtain ⟨avs, ⟨a, cap, rfl, -⟩, -⟩ := id hR
  have hb1 := Below.refl w.heap.size w
  have G1 := Lib.hid (ref16_Great w.heap.size es _ w hR (Nat.le_refl _) hn hZ)
  have HW := Lib.hid law_wakes
  have HL := Lib.hid hl
  obtain ⟨n, hnn⟩ : ∃ n, es.length = n := ⟨_, rfl⟩
  have HN := Lib.hid hnn
  rw [hnn] at G1 hR ⊢
  clear hcap hn hZ hl
  go_enter Try.func6, Try.ntmps6
  go_wp2_with fail
  refine (G1.out).mono ?_
  rintro r w2 ⟨b1, rfl, hg1, hb2⟩
  replace hb1 := bt hb1 hb2
  clear hb2 G1
  cases b1 with
  | true =>
    clear hg1 HL hR
    go_wp2_with fail
    refine (HW.out _).mono ?_
    rintro r w9 ⟨rfl, hb9⟩
    go_wp2_with fail
    go_ret
    exact ⟨rfl, bt hb1 hb9⟩
  | false =>
    have ok := hg1 rfl
    have OK := Lib.hid ok
    have hn300 : n ≤ 300 := by rw [← HN.out]; exact ok.len
    clear hg1 hnn ok
    go_wp2_with fail
    go_loopw [3, 4] (fun vm i wr => ∃ k : Nat, i = .int .i64 k ∧ k ≤ n ∧ EvsR wr.heap.size wr vm (putA (es.take k)) ∧ CapR vm (putA (es.take k)).length ∧ Below w.heap.size w wr) (fun _ i _ => n - (intOf i).toNat)
    case atStart => exact ⟨0, rfl, by omega, evsR_nil _ _, capR_nil, hb1⟩
    case round =>
      clear hb1
      obtain ⟨k, rfl, hk, hM, hC, hbl⟩ := hrel
      obtain ⟨hpl, hpa, hpt⟩ := putA_small OK.out k
      by_cases hlt : k < n
      · have hd := decide_eq_true (show (k : Int) < (n : Int) by omega)
        obtain ⟨x, hx⟩ : ∃ x, es[k]? = some x := ⟨_, List.getElem?_eq_getElem (by rw [HN.out]; exact hlt)⟩
        have hxt := (OK.out).at_le (List.mem_of_getElem? hx)
        obtain ⟨b, off, cap', av, hv, hbB, c0, c1, c2, c3, c4, hav⟩ := hR.get hbl (Nat.le_refl _) k x hx
        rw [HN.out] at hv
        cases hv
        obtain ⟨aa, ac, rfl, -⟩ := id hav
        obtain ⟨ma, mc, rfl, -⟩ := id hC
        have hP := events_Put wr.heap.size _ _ x _ wr hM (Nat.le_refl _) (hav.mono hbl.size) hC (by omega) (fun e he => by have := hpt e he; omega) (by omega)
        rw [← putA_snoc es k x hx] at hP
        have HP := Lib.hid hP
        clear hP hM hC hpa hpt hav hx hR
        unfold evV at HP
        go_wp2_with fail
        refine (HP.out).mono ?_
        rintro r w3 ⟨v3, rfl, k1, k2, k3⟩
        go_wp2_with fail
        exact ⟨⟨k + 1, by go_num, by omega, k1, k2, bt hbl k3⟩, by simp [intOf]; omega⟩
      · have hd := decide_eq_false (show ¬ (k : Int) < (n : Int) by omega)
        have hkn : es.take k = es := List.take_of_length_le (by rw [HN.out]; omega)
        rw [hkn] at hM hC hpl hpa hpt
        have hNorm := putA_norm es [] ⟨fun k x h => by simp at h, fun k x y h => by simp at h⟩
        obtain ⟨ms, hms⟩ : ∃ m, putA es = m := ⟨_, rfl⟩
        have hNorm : NormE ms := by rw [← hms]; exact hNorm
        have HMS := Lib.hid hms
        rw [hms] at hM hC hpl hpa hpt
        obtain ⟨ma, mc, rfl, hmc, -⟩ := id hC
        obtain ⟨m, hmm⟩ : ∃ m, ms.length = m := ⟨_, rfl⟩
        have HM := Lib.hid hmm
        have HCM := Lib.hid hC
        rw [hmm] at hM hpl ⊢
        have HPA := Lib.hid hpa
        have HPT := Lib.hid hpt
        clear hmm hms hkn hC hpa hpt
        generalize wr = w3 at *
        go_wp2_with fail
        go_loopw [5, 6] (fun vn i wi => ∃ j : Nat, i = .int .i64 j ∧ j ≤ m ∧ EvsR wi.heap.size wi vn (ms.take j) ∧ CapR vn (ms.take j).length ∧ Below w3.heap.size w3 wi) (fun _ i _ => m - (intOf i).toNat)
        case atStart => exact ⟨0, rfl, by omega, evsR_nil _ _, capR_nil, Below.refl _ _⟩
        case round =>
          obtain ⟨j, rfl, hj, hN, hC, hbi⟩ := hrel
          obtain ⟨na, nc, rfl, -⟩ := id hC
          by_cases hjm : j < m
          · have hd2 := decide_eq_true (show (j : Int) < (m : Int) by omega)
            obtain ⟨x, hx⟩ : ∃ x, ms[j]? = some x := ⟨_, List.getElem?_eq_getElem (by rw [HM.out]; exact hjm)⟩
            have hxt := HPT.out x (List.mem_of_getElem? hx)
            have htk : ms.take (j + 1) = putP (ms.take j) x := by
              have h1 := putA_id hNorm (j + 1) (by rw [HM.out]; omega)
              rw [putA_snoc ms j x hx, putA_id hNorm j (by rw [HM.out]; omega)] at h1
              exact h1.symm
            have hem := hNorm.1 j x hx
            have hadj : 0 < j → ∃ y, ms[j - 1]? = some y ∧ (x.k = 2 → (y.k == 2) = false) := fun h0 => by
              obtain ⟨y, hy⟩ : ∃ y, ms[j - 1]? = some y := ⟨_, List.getElem?_eq_getElem (by rw [HM.out]; omega)⟩
              refine ⟨y, hy, fun hk2 => ?_⟩
              have h2 := hNorm.2 (j - 1) y x hy (by rw [show j - 1 + 1 = j by omega]; exact hx)
              have h3 : ¬ y.k = 2 := fun h => h2 ⟨h, hk2⟩
              simpa using h3
            obtain ⟨b, off, cap', av, hv, hbB, c0, c1, c2, c3, c4, hav⟩ := hM.get hbi (Nat.le_refl _) j x hx
            rw [HM.out] at hv
            cases hv
            obtain ⟨aa, ac, rfl, -⟩ := id hav
            have htkl : (ms.take j).length ≤ 300 := by rw [List.length_take, HM.out]; omega
            have hP := events_Put wr.heap.size _ _ x _ wr hN (Nat.le_refl _) (hav.mono hbi.size) hC (by omega) (fun e he => by have := HPT.out e (List.mem_of_mem_take he); omega) (by omega)
            rw [← htk] at hP
            obtain ⟨tl, htl⟩ : ∃ q, (ms.take j).length = q := ⟨_, rfl⟩
            rw [htl] at hP htkl ⊢
            have HP := Lib.hid hP
            unfold evV at HP
            clear htl
            by_cases hk2 : x.k = 2
            · have q0 : (x.tx.toList == []) = false := by rw [emB_eq]; exact hem hk2
              rcases Nat.eq_zero_or_pos j with h0 | h0
              · subst h0
                rw [hk2] at HP c0
                simp only [Nat.zero_mul, Nat.add_zero] at c0 c1 c2 c3 c4
                clear hP hN hC hav hx hR hem hadj htk hNorm
                go_wp2_with fail
                refine (HP.out).mono ?_
                rintro r w4 ⟨v3, rfl, k1, k2, k3⟩
                go_wp2_with fail
                exact ⟨⟨0 + 1, by go_num, by omega, k1, k2, bt hbi k3⟩, by simp [intOf]; omega⟩
              · obtain ⟨y, hy, hyk⟩ := hadj h0
                have q1 := hyk hk2
                obtain ⟨b', off', cap'', av', hv', -, d0, -⟩ := hM.get hbi (Nat.le_refl _) (j - 1) y hy
                rw [HM.out] at hv'
                cases hv'
                have hd3 := decide_eq_true (show (0 : Int) < (j : Int) by omega)
                have hq2 : ((j : Int) - 1) = ((j - 1 : Nat) : Int) := by omega
                have hq3 : j - 1 < m := by omega
                rw [hk2] at HP c0
                clear hP hN hC hav hx hR hem hadj htk hNorm hy hyk
                go_wp2_with fail
                refine (HP.out).mono ?_
                rintro r w4 ⟨v3, rfl, k1, k2, k3⟩
                go_wp2_with fail
                exact ⟨⟨j + 1, by go_num, by omega, k1, k2, bt hbi k3⟩, by simp [intOf]; omega⟩
            · have q0 : (x.k == 2) = false := by simpa using hk2
              clear hP hN hC hav hx hR hem hadj htk hNorm
              go_wp2_with fail
              refine (HP.out).mono ?_
              rintro r w4 ⟨v3, rfl, k1, k2, k3⟩
              go_wp2_with fail
              exact ⟨⟨j + 1, by go_num, by omega, k1, k2, bt hbi k3⟩, by simp [intOf]; omega⟩
          · have hd2 := decide_eq_false (show ¬ (j : Int) < (m : Int) by omega)
            have hjm2 : ms.take j = ms := List.take_of_length_le (by rw [HM.out]; omega)
            rw [hjm2] at hN hC ⊢
            rw [HM.out] at hN hC ⊢
            have hC : CapR (.slice na m nc) ms.length := by rw [HM.out]; exact hC
            have hS1 := events_Same wr.heap.size ms ms (.slice ma m mc) _ wr (hM.up hbi) hN (Nat.le_refl _) (by rw [HM.out]; omega) (fun e he => by have := HPA.out e he; omega)
            rw [sameP_iff.2 rfl] at hS1
            have hbw := bt hbl hbi
            have hS2 := fun (W : World) (hW : Below wr.heap.size wr W) => events_Whole w.heap.size es (.slice a n cap) W (hR.below (bt hbw hW) (Nat.le_refl _)) (bt hbw hW).size (by rw [HN.out]; omega) (fun e he => by have := OK.out.ats e he; omega)
            have hS3 := fun (W : World) (hW : Below wr.heap.size wr W) => events_Same W.heap.size es ms (.slice a n cap) (.slice ma m mc) W ((hR.below (bt hbw hW) (Nat.le_refl _)).mono (bt hbw hW).size) ((hM.up (bt hbi hW))) (Nat.le_refl _) (by rw [HN.out]; omega) (fun e he => by have := OK.out.ats e he; omega)
            rw [← HN.out] at hS2 hS3
            have S1 := Lib.hid hS1
            rw [HN.out] at hS2 hS3
            have S2 := Lib.hid hS2
            have S3 := Lib.hid hS3
            obtain ⟨R, hR0⟩ : ∃ R, growP es = R := ⟨_, rfl⟩
            rw [hR0] at S2
            have HR0 := Lib.hid hR0
            have hW0 := Below.refl wr.heap.size wr
            clear hS1 hS2 hS3 hN hM hR hNorm hR0 hjm2 hC
            go_wp2_with fail
            refine (S1.out).mono ?_
            rintro r w4 ⟨rfl, hb4⟩
            replace hW0 := bt hW0 hb4
            clear hb4 S1
            go_wp2_with fail
            refine (S2.out _ hW0).mono ?_
            rintro r w5 ⟨rfl, hb5⟩
            replace hW0 := bt hW0 hb5
            clear hb5 S2
            cases R with
            | none =>
              clear S3
              go_wp2_with fail
              refine (HW.out _).mono ?_
              rintro r w9 ⟨rfl, hb9⟩
              go_wp2_with fail
              go_ret
              exact ⟨rfl, bt hbw (bt hW0 hb9)⟩
            | some g =>
              have hem : es = ms := by
                have h1 := whole_norm HR0.out
                have h2 := putA_id h1 es.length (Nat.le_refl _)
                rw [List.take_length, HMS.out] at h2
                exact h2.symm
              have S3 := S3.out
              rw [sameP_iff.2 hem] at S3
              have S3 := Lib.hid S3
              clear hem
              go_wp2_with fail
              refine (S3.out _ hW0).mono ?_
              rintro r w6 ⟨rfl, hb6⟩
              replace hW0 := bt hW0 hb6
              clear hb6 S3
              go_wp2_with fail
              refine (HW.out _).mono ?_
              rintro r w9 ⟨rfl, hb9⟩
              go_wp2_with fail
              go_ret
              exact ⟨rfl, bt hbw (bt hW0 hb9)⟩
end Go.Proofs.Yteefopeclfojiaa
