/-
  Layer 6, in plain terms: what is read is bytes, and no longer than what it was read from.
-/
import Derived.Test.YtjemlaiciacnpaaMoR
namespace Go.Proofs.Ytjemlaiciacnpaa
open Go.RowKit
theorem isBs_lowS {l : List Int} (h : isBs l) : isBs (lowL l) := by
  intro x hx
  unfold lowL at hx
  obtain ⟨c, hc, rfl⟩ := List.mem_map.1 hx
  have := h c hc
  unfold lowB
  split <;> omega
theorem isBs_sub {a b : List Int} (h : isBs b) (hs : ∀ c ∈ a, c ∈ b) : isBs a := fun x hx => h x (hs x hx)
theorem isBs_tail {c : Int} {l : List Int} (h : isBs (c :: l)) : isBs l := fun x hx => h x (List.mem_cons_of_mem _ hx)
theorem isBs_snoc {c : Int} {l : List Int} (hl : isBs l) (hc : 0 ≤ c ∧ c < 256) : isBs (l ++ [c]) := isBs_app hl (isBs_con hc isBs_nil)
theorem take_drop_len {α : Type} (P : α → Bool) (l : List α) : (l.takeWhile P).length + (l.dropWhile P).length = l.length := by
  rw [← List.length_append, List.takeWhile_append_dropWhile]
theorem isBs_tw {l : List Int} (h : isBs l) (P : Int → Bool) : isBs (l.takeWhile P) := isBs_sub h fun _ hc => (List.takeWhile_prefix P).subset hc
theorem isBs_dw {l : List Int} (h : isBs l) (P : Int → Bool) : isBs (l.dropWhile P) := isBs_sub h fun _ hc => (List.dropWhile_suffix P).subset hc
theorem quoA_all : ∀ (n : Nat) (acc l v u : List Int), l.length ≤ n → isBs acc → isBs l → quoA acc l = some (v, u) → isBs v ∧ isBs u ∧ v.length + u.length ≤ acc.length + l.length
  | _, acc, [], v, u, _, _, _, h => by rw [quoA_nil] at h; cases h
  | 0, acc, c :: r, v, u, hn, _, _, _ => by simp at hn
  | n + 1, acc, c :: r, v, u, hn, ha, hl, h => by
    simp only [List.length_cons] at hn ⊢
    have hc := hl c (List.mem_cons_self ..)
    by_cases e1 : c = 34
    · subst e1
      rw [quoA_quote] at h
      cases h
      exact ⟨ha, isBs_tail hl, by omega⟩
    · by_cases e2 : c = 92
      · subst e2
        cases r with
        | nil => cases h
        | cons d r =>
          simp only [List.length_cons] at hn ⊢
          have hd := hl d (by simp)
          cases he : isEsc d with
          | false => rw [quoA_esc_no he] at h; cases h
          | true =>
            rw [quoA_esc he] at h
            obtain ⟨h1, h2, h3⟩ := quoA_all n _ r v u (by omega) (isBs_snoc ha hd) (isBs_tail (isBs_tail hl)) h
            refine ⟨h1, h2, ?_⟩
            simp only [List.length_append, List.length_cons, List.length_nil] at h3
            omega
      · cases hi : isQt c with
        | false => rw [quoA_out hi e1 e2] at h; cases h
        | true =>
          rw [quoA_in hi] at h
          obtain ⟨h1, h2, h3⟩ := quoA_all n _ r v u (by omega) (isBs_snoc ha hc) (isBs_tail hl) h
          refine ⟨h1, h2, ?_⟩
          simp only [List.length_append, List.length_cons, List.length_nil] at h3
          omega
theorem valN_all {l v u : List Int} (hb : isBs l) (h : valN l = some (v, u)) : isBs v ∧ isBs u ∧ v.length + u.length ≤ l.length := by
  cases l with
  | nil => cases h
  | cons c r =>
    by_cases hc : c = 34
    · subst hc
      rw [valN_quote] at h
      obtain ⟨h1, h2, h3⟩ := quoA_all _ _ _ _ _ (Nat.le_refl _) isBs_nil (isBs_tail hb) h
      exact ⟨h1, h2, by simp at h3 ⊢; omega⟩
    · rw [valN_tok (by simpa using hc)] at h
      split at h
      · cases h
      · injection h with h
        injection h with h1 h2
        subst h1
        subst h2
        exact ⟨isBs_tw hb _, isBs_dw hb _, Nat.le_of_eq (take_drop_len _ _)⟩
theorem low_length (l : List Int) : (lowL l).length = l.length := by simp [lowL]
theorem parN_all {l u : List Int} {p : List Int × List Int} (hb : isBs l) (h : parN l = some (p, u)) : isBs p.1 ∧ isBs p.2 ∧ isBs u ∧ p.1.length + p.2.length + 1 + u.length ≤ l.length := by
  by_cases h0 : l.takeWhile isTok = []
  · rw [parN_no h0] at h; cases h
  · have hlen := take_drop_len isTok l
    have hbd := isBs_dw hb isTok
    cases hd : l.dropWhile isTok with
    | nil => rw [parN_end hd] at h; cases h
    | cons g t =>
      rw [hd] at hlen hbd
      simp only [List.length_cons] at hlen
      by_cases hg : g = 61
      · subst hg
        rw [parN_eq h0 hd] at h
        cases hv : valN t with
        | none => rw [hv] at h; cases h
        | some vu =>
          obtain ⟨v, u'⟩ := vu
          obtain ⟨h1, h2, h3⟩ := valN_all (isBs_tail hbd) hv
          rw [hv] at h
          cases h
          refine ⟨isBs_lowS (isBs_tw hb _), h1, h2, ?_⟩
          show (lowL (l.takeWhile isTok)).length + v.length + 1 + u'.length ≤ _
          rw [low_length]
          omega
      · rw [parN_other hd hg] at h; cases h
theorem lenP_snoc (ps : List (List Int × List Int)) (p : List Int × List Int) : lenP (ps ++ [p]) = lenP ps + (p.1.length + p.2.length) := by
  unfold lenP
  rw [List.map_append, List.sum_append]
  simp
theorem parA_all : ∀ (f : Nat) (acc : List (List Int × List Int)) (l : List Int) (ps : List (List Int × List Int)), (∀ p ∈ acc, isBs p.1 ∧ isBs p.2) → isBs l → parA f acc l = some ps →
    (∀ p ∈ ps, isBs p.1 ∧ isBs p.2) ∧ lenP ps + ps.length ≤ lenP acc + acc.length + l.length
  | 0, _, _, _, _, _, h => by cases h
  | f + 1, acc, [], ps, ha, _, h => by cases h; exact ⟨ha, by omega⟩
  | f + 1, acc, c :: r, ps, ha, hl, h => by
    unfold parA at h
    have hdl := dropWhile_len isBl r
    have hdb := isBs_dw (isBs_tail hl) isBl
    simp only [List.length_cons]
    split at h
    · cases h
    · split at h
      · cases h; exact ⟨ha, by omega⟩
      · rename_i d q hq
        rw [hq] at hdl hdb
        simp only [List.length_cons] at hdl
        split at h
        · obtain ⟨h1, h2⟩ := parA_all f acc _ ps ha hdb h
          simp only [List.length_cons] at h2
          exact ⟨h1, by omega⟩
        · split at h
          · cases h
          · rename_i p u hp
            obtain ⟨b1, b2, b3, b4⟩ := parN_all hdb hp
            have hul := dropWhile_len isBl u
            simp only [List.length_cons] at b4
            obtain ⟨h1, h2⟩ := parA_all f _ _ ps (fun x hx => by
              rcases List.mem_append.1 hx with hx | hx
              · exact ha x hx
              · rw [List.mem_singleton.1 hx]; exact ⟨b1, b2⟩) (isBs_dw b3 _) h
            rw [lenP_snoc, List.length_append] at h2
            simp only [List.length_cons, List.length_nil] at h2
            exact ⟨h1, by omega⟩
/-- what is read is bytes, and no longer than what it was read from. -/
theorem parse_all {l t : List Int} {ps : List (List Int × List Int)} (hb : isBs l) (h : parseN l = some (t, ps)) :
    isBs t ∧ (∀ p ∈ ps, isBs p.1 ∧ isBs p.2) ∧ t.length + lenP ps + ps.length ≤ l.length := by
  have hb1 := isBs_dw hb isBl
  have hl1 := dropWhile_len isBl l
  by_cases h1 : (l.dropWhile isBl).takeWhile isTok = []
  · rw [parseN_no1 h1] at h; cases h
  · have hl2 := take_drop_len isTok (l.dropWhile isBl)
    have hb2 := isBs_dw hb1 isTok
    cases h2 : (l.dropWhile isBl).dropWhile isTok with
    | nil => rw [parseN_no2 h2] at h; cases h
    | cons c r =>
      rw [h2] at hl2 hb2
      simp only [List.length_cons] at hl2
      by_cases hc : c = 47
      · subst hc
        by_cases h3 : r.takeWhile isTok = []
        · rw [parseN_no4 h2 h3] at h; cases h
        · have hl3 := take_drop_len isTok r
          have hl4 := dropWhile_len isBl (r.dropWhile isTok)
          have hbr := isBs_tail hb2
          rw [parseN_eq h1 h2 h3] at h
          cases hp : parW [] ((r.dropWhile isTok).dropWhile isBl) with
          | none => rw [hp] at h; cases h
          | some qs =>
            rw [hp] at h
            cases h
            obtain ⟨g1, g2⟩ := parA_all _ [] _ _ (fun _ hx => by cases hx) (isBs_dw (isBs_dw hbr _) _) hp
            refine ⟨isBs_lowS (isBs_app (isBs_tw hb1 _) (isBs_con (by omega) (isBs_tw hbr _))), g1, ?_⟩
            rw [low_length, List.length_append, List.length_cons]
            simp only [lenP, List.map_nil, List.sum_nil, List.length_nil] at g2
            unfold lenP
            omega
      · rw [parseN_no3 h2 hc] at h; cases h
theorem lenP_mem {p : List Int × List Int} : ∀ {ps : List (List Int × List Int)}, p ∈ ps → p.1.length + p.2.length ≤ lenP ps
  | [], h => by cases h
  | x :: r, h => by
    unfold lenP
    rw [List.map_cons, List.sum_cons]
    rcases List.mem_cons.1 h with rfl | h
    · omega
    · have := lenP_mem h
      unfold lenP at this
      omega
theorem txtN_ne {t : List Int} {ps : List (List Int × List Int)} {L : List Int} (ht : t ≠ []) (h : txtN t ps = some L) : L ≠ [] := by
  unfold txtN at h
  split at h
  · cases hq : parT ps with
    | none => rw [hq] at h; cases h
    | some q =>
      rw [hq] at h
      cases h
      intro e
      exact ht (List.append_eq_nil_iff.1 e).1
  · cases h
end Go.Proofs.Ytjemlaiciacnpaa
