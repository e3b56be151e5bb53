/-
  Layer 6, in plain terms: what is written is read back, and what is read can be written.
-/
import Derived.Test.YtjemlaiciacnpaaMoP
import Derived.Test.YtjemlaiciacnpaaMeS
namespace Go.Proofs.Ytjemlaiciacnpaa
open Go.RowKit
/-- nothing, or something that begins with a semicolon. -/
def Semi (l : List Int) : Prop := l = [] ∨ ∃ r, l = 59 :: r
theorem tok_noq : isTok 34 = false := by decide
theorem tok_semi : isTok 59 = false := by decide
theorem tok_eq : isTok 61 = false := by decide
theorem bl_semi : isBl 59 = false := by decide
theorem tok_notBl {c : Int} (h : isTok c = true) : isBl c = false := by
  cases hb : isBl c with
  | false => rfl
  | true =>
    have h1 : c = 32 ∨ c = 9 := of_decide_eq_true hb
    rcases h1 with rfl | rfl <;> revert h <;> decide
theorem Semi.take {l : List Int} (h : Semi l) : l.takeWhile isTok = [] := by
  rcases h with rfl | ⟨r, rfl⟩
  · rfl
  · rw [List.takeWhile_cons, tok_semi]; rfl
theorem Semi.drop {l : List Int} (h : Semi l) : l.dropWhile isTok = l := by
  rcases h with rfl | ⟨r, rfl⟩
  · rfl
  · rw [List.dropWhile_cons, tok_semi]; rfl
theorem Semi.bl {l : List Int} (h : Semi l) : l.dropWhile isBl = l := by
  rcases h with rfl | ⟨r, rfl⟩
  · rfl
  · rw [List.dropWhile_cons, bl_semi]; rfl
theorem take_all_app {P : Int → Bool} {a l : List Int} (h : a.all P = true) (hl : l.takeWhile P = []) : (a ++ l).takeWhile P = a := by
  rw [List.takeWhile_append, (takeWhile_all P a).2 h, if_pos rfl, hl, List.append_nil]
theorem drop_all_app {P : Int → Bool} {a l : List Int} (h : a.all P = true) (hl : l.dropWhile P = l) : (a ++ l).dropWhile P = l := by
  rw [List.dropWhile_append, (dropWhile_nil P a).2 h]
  simp [hl]
theorem esc_of {c : Int} (h : c = 34 ∨ c = 92) : isEsc c = true := by rcases h with rfl | rfl <;> decide
theorem quoA_escL : ∀ (v q acc rest : List Int), escL v = some q → quoA acc (q ++ 34 :: rest) = some (acc ++ v, rest)
  | [], q, acc, rest, h => by
    cases h
    rw [List.nil_append, quoA_quote, List.append_nil]
  | c :: r, q, acc, rest, h => by
    rw [escL] at h
    by_cases hc : c = 34 ∨ c = 92
    · rw [if_pos hc] at h
      cases hr : escL r with
      | none => rw [hr] at h; cases h
      | some q' =>
        rw [hr] at h
        cases h
        show quoA acc (92 :: c :: (q' ++ 34 :: rest)) = _
        rw [quoA_esc (esc_of hc), quoA_escL r q' _ rest hr]
        simp
    · rw [if_neg hc] at h
      cases hi : isQt c with
      | false => rw [hi] at h; cases h
      | true =>
        rw [hi, if_pos rfl] at h
        cases hr : escL r with
        | none => rw [hr] at h; cases h
        | some q' =>
          rw [hr] at h
          cases h
          show quoA acc (c :: (q' ++ 34 :: rest)) = _
          rw [quoA_in hi, quoA_escL r q' _ rest hr]
          simp
theorem valN_wri {v x rest : List Int} (h : wriN v = some x) (hr : Semi rest) : valN (x ++ rest) = some (v, rest) := by
  unfold wriN at h
  by_cases ht : tokB v = true
  · rw [if_pos ht] at h
    cases h
    obtain ⟨h0, h1⟩ := (tokB_iff v).1 ht
    have hh : (v ++ rest).head? ≠ some 34 := by
      cases v with
      | nil => exact absurd rfl h0
      | cons c r =>
        intro e
        have : c = 34 := by simpa using e
        subst this
        rw [List.all_cons, tok_noq] at h1
        cases h1
    rw [valN_tok hh, take_all_app h1 hr.take, drop_all_app h1 hr.drop, if_neg h0]
  · rw [if_neg ht] at h
    cases he : escL v with
    | none => rw [he] at h; cases h
    | some q =>
      rw [he] at h
      cases h
      show valN (34 :: (q ++ [34] ++ rest)) = _
      rw [valN_quote, List.append_assoc]
      exact quoA_escL v q [] rest he
theorem namB_iff {n : List Int} (h : namB n = true) : n ≠ [] ∧ n.all isTok = true ∧ lowL n = n := by
  unfold namB at h
  rw [Bool.and_eq_true] at h
  obtain ⟨h1, h2⟩ := h
  exact ⟨((tokB_iff n).1 h1).1, ((tokB_iff n).1 h1).2, of_decide_eq_true h2⟩
theorem parN_wri {n v x rest : List Int} (hn : namB n = true) (h : wriN v = some x) (hr : Semi rest) : parN (n ++ 61 :: (x ++ rest)) = some ((n, v), rest) := by
  obtain ⟨h0, h1, h2⟩ := namB_iff hn
  have ht : (n ++ 61 :: (x ++ rest)).takeWhile isTok = n := take_all_app h1 (by rw [List.takeWhile_cons, tok_eq]; rfl)
  have hd : (n ++ 61 :: (x ++ rest)).dropWhile isTok = 61 :: (x ++ rest) := drop_all_app h1 (by rw [List.dropWhile_cons, tok_eq]; rfl)
  rw [parN_eq (by rw [ht]; exact h0) hd, ht, valN_wri h hr, h2]
  rfl
theorem parT_semi : ∀ (ps : List (List Int × List Int)) (L : List Int), parT ps = some L → Semi L
  | [], L, h => by cases h; exact .inl rfl
  | p :: r, L, h => by
    rw [parT] at h
    split at h
    · split at h
      · cases h
      · cases hq : parT r with
        | none => rw [hq] at h; cases h
        | some q => rw [hq] at h; cases h; exact .inr ⟨_, rfl⟩
    · cases h
theorem parW_wri : ∀ (ps : List (List Int × List Int)) (L : List Int) (acc : List (List Int × List Int)), parT ps = some L → parW acc L = some (acc ++ ps)
  | [], L, acc, h => by cases h; rw [parW_nil, List.append_nil]
  | p :: r, L, acc, h => by
    rw [parT] at h
    by_cases hn : namB p.1 = true
    · rw [if_pos hn] at h
      cases hw : wriN p.2 with
      | none => rw [hw] at h; cases h
      | some x =>
        rw [hw] at h
        cases hq : parT r with
        | none => rw [hq] at h; cases h
        | some q =>
          rw [hq] at h
          cases h
          obtain ⟨h0, h1, h2⟩ := namB_iff hn
          have hsq := parT_semi r q hq
          have hp := parN_wri hn hw hsq
          obtain ⟨d, n', hdn⟩ : ∃ d n', p.1 = d :: n' := by
            cases hp1 : p.1 with
            | nil => exact absurd hp1 h0
            | cons d n' => exact ⟨d, n', rfl⟩
          have hdt : isTok d = true := by
            rw [hdn, List.all_cons, Bool.and_eq_true] at h1
            exact h1.1
          have hd59 : d ≠ 59 := fun e => by rw [e, tok_semi] at hdt; cases hdt
          have hbl : (32 :: (p.1 ++ 61 :: (x ++ q))).dropWhile isBl = d :: (n' ++ 61 :: (x ++ q)) := by
            rw [List.dropWhile_cons, show isBl 32 = true by decide, if_pos rfl, hdn, List.cons_append, List.dropWhile_cons, tok_notBl hdt]
            rfl
          rw [hdn, List.cons_append, ← hdn] at hp
          show parW acc (59 :: (32 :: (p.1 ++ 61 :: (x ++ q)))) = _
          rw [parW_par acc _ _ q d (p.1, p.2) hbl hd59 hp, hsq.bl, parW_wri r q _ hq]
          simp
    · rw [if_neg hn] at h
      cases h
/-- what is written is read back. -/
theorem parse_txt {t : List Int} {ps : List (List Int × List Int)} {L : List Int} (h : txtN t ps = some L) : parseN L = some (t, ps) := by
  unfold txtN at h
  by_cases ht : typB t = true
  · rw [if_pos ht] at h
    cases hq : parT ps with
    | none => rw [hq] at h; cases h
    | some q =>
      rw [hq] at h
      cases h
      have hsq := parT_semi ps q hq
      unfold typB at ht
      split at ht
      · rename_i b hd
        rw [Bool.and_eq_true, Bool.and_eq_true] at ht
        obtain ⟨h1, h2, h3⟩ := ht
        have h3 : lowL t = t := of_decide_eq_true h3
        obtain ⟨hb0, hb1⟩ := (tokB_iff b).1 h2
        obtain ⟨a, ha⟩ : ∃ a, t.takeWhile isTok = a := ⟨_, rfl⟩
        have hta : t = a ++ 47 :: b := by rw [← List.takeWhile_append_dropWhile (p := isTok) (l := t), ha, hd]
        rw [ha] at h1
        have ha1 : a.all isTok = true := by rw [← ha]; exact List.all_takeWhile
        have ha0 : a ≠ [] := fun e => by rw [e] at h1; cases h1
        have hbl : (t ++ q).dropWhile isBl = t ++ q := by
          rw [hta]
          cases a with
          | nil => exact absurd rfl ha0
          | cons d r =>
            rw [List.all_cons, Bool.and_eq_true] at ha1
            rw [List.cons_append, List.cons_append, List.dropWhile_cons, tok_notBl ha1.1]
            rfl
        have hform : t ++ q = a ++ 47 :: (b ++ q) := by rw [hta]; simp
        have e1 : ((t ++ q).dropWhile isBl).takeWhile isTok = a := by
          rw [hbl, hform]
          exact take_all_app ha1 (by rw [List.takeWhile_cons, tok_slash]; rfl)
        have e2 : ((t ++ q).dropWhile isBl).dropWhile isTok = 47 :: (b ++ q) := by
          rw [hbl, hform]
          exact drop_all_app ha1 (by rw [List.dropWhile_cons, tok_slash]; rfl)
        have e3 : (b ++ q).takeWhile isTok = b := take_all_app hb1 hsq.take
        have e4 : (b ++ q).dropWhile isTok = q := drop_all_app hb1 hsq.drop
        rw [parseN_eq (by rw [e1]; exact ha0) e2 (by rw [e3]; exact hb0), e1, e3, e4, hsq.bl, parW_wri ps q [] hq, ← hta, h3]
        rfl
      · cases ht
  · rw [if_neg ht] at h
    cases h
/-! what is read can be written -/
theorem escL_some : ∀ v : List Int, (∀ c ∈ v, (c = 34 ∨ c = 92) ∨ isQt c = true) → ∃ q, escL v = some q ∧ q.length ≤ 2 * v.length
  | [], _ => ⟨[], rfl, Nat.le_refl _⟩
  | c :: r, h => by
    obtain ⟨q, hq, hl⟩ := escL_some r fun d hd => h d (List.mem_cons_of_mem _ hd)
    rw [escL, hq]
    by_cases hc : c = 34 ∨ c = 92
    · rw [if_pos hc]; exact ⟨_, rfl, by simp; omega⟩
    · rw [if_neg hc]
      rcases h c (List.mem_cons_self ..) with h1 | h1
      · exact absurd h1 hc
      · rw [h1]; exact ⟨_, rfl, by simp; omega⟩
/-- a value that can be written. -/
def ValOk (v : List Int) : Prop := tokB v = true ∨ ∀ c ∈ v, (c = 34 ∨ c = 92) ∨ isQt c = true
theorem wriN_some {v : List Int} (h : ValOk v) : ∃ x, wriN v = some x := by
  unfold wriN
  by_cases ht : tokB v = true
  · rw [if_pos ht]; exact ⟨_, rfl⟩
  · rw [if_neg ht]
    rcases h with h | h
    · exact absurd h ht
    · obtain ⟨q, hq, _⟩ := escL_some v h
      rw [hq]; exact ⟨_, rfl⟩
theorem esc_ok {c : Int} (h : isEsc c = true) : (c = 34 ∨ c = 92) ∨ isQt c = true := by
  have h1 : c = 9 ∨ 32 ≤ c ∧ c ≤ 126 := of_decide_eq_true h
  by_cases hc : c = 34 ∨ c = 92
  · exact .inl hc
  · refine .inr (decide_eq_true (.inl ⟨h1, ?_, ?_⟩)) <;> omega
theorem quoA_ok : ∀ (n : Nat) (acc l v u : List Int), l.length ≤ n → (∀ c ∈ acc, (c = 34 ∨ c = 92) ∨ isQt c = true) → quoA acc l = some (v, u) → ∀ c ∈ v, (c = 34 ∨ c = 92) ∨ isQt c = true
  | _, acc, [], v, u, _, _, h => by rw [quoA_nil] at h; cases h
  | 0, acc, c :: r, v, u, hn, _, _ => by simp at hn
  | n + 1, acc, c :: r, v, u, hn, ha, h => by
    simp only [List.length_cons] at hn
    have snoc : ∀ d : Int, ((d = 34 ∨ d = 92) ∨ isQt d = true) → ∀ c ∈ acc ++ [d], (c = 34 ∨ c = 92) ∨ isQt c = true := fun d hd c hc => by
      rcases List.mem_append.1 hc with hc | hc
      · exact ha c hc
      · rw [List.mem_singleton.1 hc]; exact hd
    by_cases e1 : c = 34
    · subst e1
      rw [quoA_quote] at h
      cases h
      exact ha
    · by_cases e2 : c = 92
      · subst e2
        cases r with
        | nil => cases h
        | cons d r =>
          simp only [List.length_cons] at hn
          cases he : isEsc d with
          | false => rw [quoA_esc_no he] at h; cases h
          | true =>
            rw [quoA_esc he] at h
            exact quoA_ok n _ r v u (by omega) (snoc d (esc_ok he)) h
      · cases hi : isQt c with
        | false => rw [quoA_out hi e1 e2] at h; cases h
        | true =>
          rw [quoA_in hi] at h
          exact quoA_ok n _ r v u (by omega) (snoc c (.inr hi)) h
theorem valN_ok {l v u : List Int} (h : valN l = some (v, u)) : ValOk v := by
  cases l with
  | nil => cases h
  | cons c r =>
    by_cases hc : c = 34
    · subst hc
      rw [valN_quote] at h
      exact .inr (quoA_ok _ _ _ _ _ (Nat.le_refl _) (fun c hc => by cases hc) h)
    · rw [valN_tok (by simpa using hc)] at h
      split at h
      · cases h
      · rename_i h0
        injection h with h
        injection h with h1 h2
        subst h1
        exact .inl ((tokB_iff _).2 ⟨h0, List.all_takeWhile⟩)
theorem tok_low {c : Int} (h : isTok c = true) : isTok (lowB c) = true := by
  unfold lowB
  split
  · rename_i h1
    unfold isTok
    rw [decide_eq_true (show 97 ≤ c + 32 ∧ c + 32 ≤ 122 by omega)]
    rfl
  · exact h
theorem all_low {l : List Int} (h : l.all isTok = true) : (lowL l).all isTok = true := by
  rw [List.all_eq_true] at *
  intro x hx
  obtain ⟨c, hc, rfl⟩ := List.mem_map.1 hx
  exact tok_low (h c hc)
theorem low_low (l : List Int) : lowL (lowL l) = lowL l := by
  unfold lowL
  rw [List.map_map]
  refine List.map_congr_left fun c _ => ?_
  show lowB (lowB c) = lowB c
  unfold lowB
  split
  · rw [if_neg (by omega)]
  · rfl
theorem low_ne {l : List Int} (h : l ≠ []) : lowL l ≠ [] := fun e => h (by simpa [lowL] using e)
theorem namB_low {l : List Int} (h0 : l ≠ []) (h : l.all isTok = true) : namB (lowL l) = true := by
  unfold namB
  rw [(tokB_iff _).2 ⟨low_ne h0, all_low h⟩, low_low]
  simp
/-- a parameter that can be written. -/
def ParOk (p : List Int × List Int) : Prop := namB p.1 = true ∧ ValOk p.2
theorem parN_ok {l u : List Int} {p : List Int × List Int} (h : parN l = some (p, u)) : ParOk p := by
  by_cases h0 : l.takeWhile isTok = []
  · rw [parN_no h0] at h; cases h
  · cases hd : l.dropWhile isTok with
    | nil => rw [parN_end hd] at h; cases h
    | cons g t =>
      by_cases hg : g = 61
      · subst hg
        rw [parN_eq h0 hd] at h
        cases hv : valN t with
        | none => rw [hv] at h; cases h
        | some vu =>
          obtain ⟨v, u'⟩ := vu
          rw [hv] at h
          cases h
          exact ⟨namB_low h0 List.all_takeWhile, valN_ok hv⟩
      · rw [parN_other hd hg] at h; cases h
theorem parA_ok : ∀ (f : Nat) (acc : List (List Int × List Int)) (l : List Int) (ps : List (List Int × List Int)), (∀ p ∈ acc, ParOk p) → parA f acc l = some ps → ∀ p ∈ ps, ParOk p
  | 0, _, _, _, _, h => by cases h
  | f + 1, acc, [], ps, ha, h => by cases h; exact ha
  | f + 1, acc, c :: r, ps, ha, h => by
    unfold parA at h
    split at h
    · cases h
    · split at h
      · cases h; exact ha
      · split at h
        · exact parA_ok f acc _ ps ha h
        · split at h
          · cases h
          · rename_i p u hp
            refine parA_ok f _ _ ps (fun x hx => ?_) h
            rcases List.mem_append.1 hx with hx | hx
            · exact ha x hx
            · rw [List.mem_singleton.1 hx]; exact parN_ok hp
theorem parT_some : ∀ ps : List (List Int × List Int), (∀ p ∈ ps, ParOk p) → ∃ L, parT ps = some L
  | [], _ => ⟨[], rfl⟩
  | p :: r, h => by
    obtain ⟨L, hL⟩ := parT_some r fun q hq => h q (List.mem_cons_of_mem _ hq)
    obtain ⟨h1, h2⟩ := h p (List.mem_cons_self ..)
    obtain ⟨x, hx⟩ := wriN_some h2
    rw [parT, if_pos h1, hx, hL]
    exact ⟨_, rfl⟩
theorem typB_low {a b : List Int} (ha0 : a ≠ []) (ha : a.all isTok = true) (hb0 : b ≠ []) (hb : b.all isTok = true) : typB (lowL (a ++ 47 :: b)) = true := by
  have e : lowL (a ++ 47 :: b) = lowL a ++ 47 :: lowL b := by rw [low_app]; rfl
  have ht : (lowL a ++ 47 :: lowL b).takeWhile isTok = lowL a := take_all_app (all_low ha) (by rw [List.takeWhile_cons, tok_slash]; rfl)
  have hd : (lowL a ++ 47 :: lowL b).dropWhile isTok = 47 :: lowL b := drop_all_app (all_low ha) (by rw [List.dropWhile_cons, tok_slash]; rfl)
  have hl : lowL (lowL a ++ 47 :: lowL b) = lowL a ++ 47 :: lowL b := by rw [← e, low_low]
  unfold typB
  rw [e, hd, ht, hl]
  show (!(lowL a).isEmpty && (tokB (lowL b) && decide _)) = true
  rw [(tokB_iff _).2 ⟨low_ne hb0, all_low hb⟩]
  have : (lowL a).isEmpty = false := by
    cases h : lowL a with
    | nil => exact absurd h (low_ne ha0)
    | cons _ _ => rfl
  simp [this]
/-- what is read can be written. -/
theorem txt_parse {l t : List Int} {ps : List (List Int × List Int)} (h : parseN l = some (t, ps)) : t ≠ [] ∧ ∃ L, txtN t ps = some L := by
  by_cases h1 : (l.dropWhile isBl).takeWhile isTok = []
  · rw [parseN_no1 h1] at h; cases h
  · cases h2 : (l.dropWhile isBl).dropWhile isTok with
    | nil => rw [parseN_no2 h2] at h; cases h
    | cons c r =>
      by_cases hc : c = 47
      · subst hc
        by_cases h3 : r.takeWhile isTok = []
        · rw [parseN_no4 h2 h3] at h; cases h
        · rw [parseN_eq h1 h2 h3] at h
          cases hp : parW [] ((r.dropWhile isTok).dropWhile isBl) with
          | none => rw [hp] at h; cases h
          | some qs =>
            rw [hp] at h
            cases h
            refine ⟨low_ne (by simp), ?_⟩
            obtain ⟨L, hL⟩ := parT_some ps (parA_ok _ [] _ _ (fun _ hx => by cases hx) hp)
            unfold txtN
            rw [if_pos (typB_low h1 List.all_takeWhile h3 List.all_takeWhile), hL]
            exact ⟨_, rfl⟩
      · rw [parseN_no3 h2 hc] at h; cases h
/-! how long what is written is; that it is bytes -/
theorem escL_len : ∀ (v q : List Int), escL v = some q → q.length ≤ 2 * v.length
  | [], q, h => by cases h; simp
  | c :: r, q, h => by
    rw [escL] at h
    split at h
    · cases hr : escL r with
      | none => rw [hr] at h; cases h
      | some q' => rw [hr] at h; cases h; have := escL_len r q' hr; simp; omega
    · split at h
      · cases hr : escL r with
        | none => rw [hr] at h; cases h
        | some q' => rw [hr] at h; cases h; have := escL_len r q' hr; simp; omega
      · cases h
theorem wriN_len {v x : List Int} (h : wriN v = some x) : x.length ≤ 2 * v.length + 2 := by
  unfold wriN at h
  split at h
  · cases h; omega
  · cases he : escL v with
    | none => rw [he] at h; cases h
    | some q => rw [he] at h; cases h; have := escL_len v q he; simp; omega
def lenP (ps : List (List Int × List Int)) : Nat := (ps.map fun p => p.1.length + p.2.length).sum
theorem parT_len : ∀ (ps : List (List Int × List Int)) (L : List Int), parT ps = some L → L.length ≤ 2 * lenP ps + 5 * ps.length
  | [], L, h => by cases h; simp
  | p :: r, L, h => by
    rw [parT] at h
    split at h
    · cases hw : wriN p.2 with
      | none => rw [hw] at h; cases h
      | some x =>
        rw [hw] at h
        cases hq : parT r with
        | none => rw [hq] at h; cases h
        | some q =>
          rw [hq] at h
          cases h
          have h1 := parT_len r q hq
          have h2 := wriN_len hw
          unfold lenP at *
          simp only [List.map_cons, List.sum_cons, List.length_cons, List.length_append] at *
          omega
    · cases h
theorem txtN_len {t : List Int} {ps : List (List Int × List Int)} {L : List Int} (h : txtN t ps = some L) : L.length ≤ t.length + 2 * lenP ps + 5 * ps.length := by
  unfold txtN at h
  split at h
  · cases hq : parT ps with
    | none => rw [hq] at h; cases h
    | some q => rw [hq] at h; cases h; have := parT_len ps q hq; simp; omega
  · cases h
theorem escL_bs : ∀ (v q : List Int), isBs v → escL v = some q → isBs q
  | [], q, _, h => by cases h; intro x hx; cases hx
  | c :: r, q, hb, h => by
    have hc := hb c (List.mem_cons_self ..)
    have ih := fun q' h' => escL_bs r q' (fun x hx => hb x (List.mem_cons_of_mem _ hx)) h'
    rw [escL] at h
    split at h
    · cases hr : escL r with
      | none => rw [hr] at h; cases h
      | some q' =>
        rw [hr] at h; cases h
        intro x hx
        rcases List.mem_cons.1 hx with rfl | hx
        · omega
        · rcases List.mem_cons.1 hx with rfl | hx
          · exact hc
          · exact ih q' hr x hx
    · split at h
      · cases hr : escL r with
        | none => rw [hr] at h; cases h
        | some q' =>
          rw [hr] at h; cases h
          intro x hx
          rcases List.mem_cons.1 hx with rfl | hx
          · exact hc
          · exact ih q' hr x hx
      · cases h
theorem isBs_app {a b : List Int} (ha : isBs a) (hb : isBs b) : isBs (a ++ b) := fun x hx => by
  rcases List.mem_append.1 hx with h | h
  · exact ha x h
  · exact hb x h
theorem isBs_con {c : Int} {l : List Int} (hc : 0 ≤ c ∧ c < 256) (hl : isBs l) : isBs (c :: l) := fun x hx => by
  rcases List.mem_cons.1 hx with rfl | h
  · exact hc
  · exact hl x h
theorem isBs_nil : isBs [] := fun _ h => by cases h
theorem wriN_bs {v x : List Int} (hv : isBs v) (h : wriN v = some x) : isBs x := by
  unfold wriN at h
  split at h
  · cases h; exact hv
  · cases he : escL v with
    | none => rw [he] at h; cases h
    | some q => rw [he] at h; cases h; exact isBs_con (by omega) (isBs_app (escL_bs v q hv he) (isBs_con (by omega) isBs_nil))
theorem parT_bs : ∀ (ps : List (List Int × List Int)) (L : List Int), (∀ p ∈ ps, isBs p.1 ∧ isBs p.2) → parT ps = some L → isBs L
  | [], L, _, h => by cases h; exact isBs_nil
  | p :: r, L, hb, h => by
    obtain ⟨b1, b2⟩ := hb p (List.mem_cons_self ..)
    rw [parT] at h
    split at h
    · cases hw : wriN p.2 with
      | none => rw [hw] at h; cases h
      | some x =>
        rw [hw] at h
        cases hq : parT r with
        | none => rw [hq] at h; cases h
        | some q =>
          rw [hq] at h
          cases h
          have h1 := parT_bs r q (fun y hy => hb y (List.mem_cons_of_mem _ hy)) hq
          exact isBs_con (by omega) (isBs_con (by omega) (isBs_app b1 (isBs_con (by omega) (isBs_app (wriN_bs b2 hw) h1))))
    · cases h
theorem txtN_bs {t : List Int} {ps : List (List Int × List Int)} {L : List Int} (ht : isBs t) (hp : ∀ p ∈ ps, isBs p.1 ∧ isBs p.2) (h : txtN t ps = some L) : isBs L := by
  unfold txtN at h
  split at h
  · cases hq : parT ps with
    | none => rw [hq] at h; cases h
    | some q => rw [hq] at h; cases h; exact isBs_app ht (parT_bs ps q hp hq)
  · cases h
end Go.Proofs.Ytjemlaiciacnpaa
