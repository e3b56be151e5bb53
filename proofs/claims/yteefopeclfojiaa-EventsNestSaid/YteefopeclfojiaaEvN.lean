/-
  Layer 16 in plain terms: a run of events within another run; an element's part is whole; whole events within an element more.
-/
import Derived.Test.YteefopeclfojiaaEvG
namespace Go.Proofs.Yteefopeclfojiaa
open Go.RowKit
/-- one step, case by case. -/
def StepC (es : List Evt) (i : Nat) (x : Evt) (op : List Int) (ends : List (Int × Value)) (deep : Nat) (g2 : Gr) : Prop :=
  fldB x = true ∧ ¬ (op = [] ∧ (0 < i ∨ x.k ≠ 0)) ∧
    ((x.k = 0 ∧ g2 = ⟨op ++ [(i : Int)], ends, max deep (op.length + 1)⟩) ∨ (x.k = 2 ∧ ¬ (es[i - 1]?).map Evt.k = some 2 ∧ g2 = ⟨op, ends, deep⟩) ∨
      (x.k = 1 ∧ ∃ t, op.getLast? = some t ∧ (es[t.toNat]?).map Evt.n = some x.n ∧ g2 = ⟨op.dropLast, aPut ends t (.int .i64 i), deep⟩))
theorem gstep_iff {es : List Evt} {i : Nat} {x : Evt} {op : List Int} {ends : List (Int × Value)} {deep : Nat} {g2 : Gr} : gstep es i x ⟨op, ends, deep⟩ = some g2 ↔ StepC es i x op ends deep g2 := by
  unfold StepC
  constructor
  · intro h
    unfold gstep at h
    split at h
    · cases h
    · rename_i hf
      have hk3 := fldB_k (show fldB x = true by simpa using hf)
      unfold gbody at h
      simp only at h
      split at h
      · cases h
      · rename_i ho
        refine ⟨by simpa using hf, ho, ?_⟩
        split at h
        · rename_i hk
          cases h
          exact .inl ⟨hk, rfl⟩
        · rename_i hk
          split at h
          · rename_i hk2
            split at h
            · cases h
            · rename_i ht
              cases h
              exact .inr (.inl ⟨hk2, ht, rfl⟩)
          · rename_i hk2
            split at h
            · cases h
            · rename_i t ht
              split at h
              · rename_i hn
                cases h
                exact .inr (.inr ⟨hk3.elim (fun h => absurd h hk) fun h => h.elim id fun h => absurd h hk2, t, ht, hn, rfl⟩)
              · cases h
  · rintro ⟨hf, ho, h⟩
    unfold gstep
    rw [if_neg (by rw [hf]; decide)]
    unfold gbody
    simp only
    rw [if_neg ho]
    rcases h with ⟨hk, rfl⟩ | ⟨hk, ht, rfl⟩ | ⟨hk, t, ht, hn, rfl⟩
    · rw [if_pos hk]
    · rw [if_neg (by omega), if_pos hk, if_neg ht]
    · rw [if_neg (by omega), if_neg (by omega), ht]
      simp only
      rw [if_pos hn]
def cI (os : List Nat) : List Int := os.map fun p : Nat => (p : Int)
theorem cI_inj {a b : List Nat} (h : cI a = cI b) : a = b := (List.map_inj_right (by intro x y h; omega)).1 h
theorem cI_append (a b : List Nat) : cI (a ++ b) = cI a ++ cI b := by unfold cI; rw [List.map_append]
theorem cI_nil_iff {a : List Nat} : cI a = [] ↔ a = [] := by unfold cI; exact List.map_eq_nil_iff
theorem cI_len (a : List Nat) : (cI a).length = a.length := by unfold cI; rw [List.length_map]
/-- a run over es at i, as it stands s places further on within a run over es', with bs open around it. -/
structure Sim (F : Prop) (s : Nat) (bs : List Nat) (i : Nat) (g g' : Gr) (os : List Nat) : Prop where
  op : g.op = cI os
  op' : g'.op = cI (bs ++ os.map (· + s))
  ends : ∀ q : Nat, q < i → endO g' (q + s) = (endO g q).map (· + s)
  deep : F → g'.deep = g.deep + bs.length
  lt : ∀ o ∈ os, o < i
theorem last_cI {os : List Nat} {t : Int} (h : (cI os).getLast? = some t) : ∃ (ini : List Nat) (u : Nat), os = ini ++ [u] ∧ t = (u : Int) := by
  cases hos : os.getLast? with
  | none =>
    rw [List.getLast?_eq_none_iff] at hos
    subst hos
    cases h
  | some u =>
    obtain ⟨ini, rfl⟩ := List.getLast?_eq_some_iff.1 hos
    rw [cI_append] at h
    exact ⟨ini, u, rfl, by simpa [cI] using h.symm⟩
theorem endO_other {op op' : List Int} {ends : List (Int × Value)} {d d' : Nat} {t i q : Nat} (h : q ≠ t) : endO ⟨op', aPut ends (t : Int) (.int .i64 i), d'⟩ q = endO ⟨op, ends, d⟩ q := by
  rw [endO_put ⟨op, ends, d⟩ op' t i q d', if_neg h]
theorem endO_this {op' : List Int} {ends : List (Int × Value)} {d' : Nat} {t i : Nat} : endO ⟨op', aPut ends (t : Int) (.int .i64 i), d'⟩ t = some i := by
  rw [endO_put ⟨op', ends, d'⟩ op' t i t d', if_pos rfl]
/-- what a step makes of both, whichever way it is known. -/
theorem sim_start {F : Prop} {s : Nat} {bs : List Nat} {i : Nat} {g g' : Gr} {os : List Nat} (h : Sim F s bs i g g' os) (hn : endO g i = none) (hn' : endO g' (i + s) = none) :
    Sim F s bs (i + 1) ⟨g.op ++ [(i : Int)], g.ends, max g.deep (g.op.length + 1)⟩ ⟨g'.op ++ [((i + s : Nat) : Int)], g'.ends, max g'.deep (g'.op.length + 1)⟩ (os ++ [i]) := by
  refine ⟨?_, ?_, fun q hq => ?_, fun hF => ?_, fun o ho => ?_⟩
  · rw [cI_append, ← h.op]; rfl
  · show g'.op ++ [((i + s : Nat) : Int)] = _
    rw [List.map_append, ← List.append_assoc, cI_append, ← h.op']
    rfl
  · by_cases e : q = i
    · subst e
      show endO g' (q + s) = (endO g q).map _
      rw [hn, hn']
      rfl
    · exact h.ends q (by omega)
  · have := h.deep hF
    show max g'.deep (g'.op.length + 1) = max g.deep (g.op.length + 1) + bs.length
    rw [h.op', h.op, cI_len, cI_len, List.length_append, List.length_map]
    omega
  · rcases List.mem_append.1 ho with ho | ho
    · have := h.lt o ho; omega
    · rw [List.mem_singleton] at ho; omega
theorem sim_text {F : Prop} {s : Nat} {bs : List Nat} {i : Nat} {g g' : Gr} {os : List Nat} (h : Sim F s bs i g g' os) (hn : endO g i = none) (hn' : endO g' (i + s) = none) : Sim F s bs (i + 1) g g' os :=
  ⟨h.op, h.op', fun q hq => by
    by_cases e : q = i
    · subst e; rw [hn, hn']; rfl
    · exact h.ends q (by omega), h.deep, fun o ho => by have := h.lt o ho; omega⟩
theorem sim_end {F : Prop} {s : Nat} {bs : List Nat} {i : Nat} {g g' : Gr} {ini : List Nat} {u : Nat} (h : Sim F s bs i g g' (ini ++ [u])) (hn : endO g i = none) (hn' : endO g' (i + s) = none) :
    Sim F s bs (i + 1) ⟨g.op.dropLast, aPut g.ends (u : Int) (.int .i64 i), g.deep⟩ ⟨g'.op.dropLast, aPut g'.ends ((u + s : Nat) : Int) (.int .i64 (i + s : Nat)), g'.deep⟩ ini := by
  have hu := h.lt u (by simp)
  refine ⟨?_, ?_, fun q hq => ?_, h.deep, fun o ho => ?_⟩
  · rw [h.op, cI_append]; simp [cI]
  · rw [h.op', List.map_append, ← List.append_assoc, cI_append]
    simp [cI]
  · by_cases e : q = u
    · subst e
      rw [endO_this, endO_this]
      rfl
    · rw [endO_other (op := g.op) (d := g.deep) e, endO_other (op := g'.op) (d := g'.deep) (by omega : q + s ≠ u + s)]
      by_cases e2 : q = i
      · subst e2; exact hn'.trans (by rw [show endO ⟨g.op, g.ends, g.deep⟩ q = none from hn]; rfl)
      · exact h.ends q (by omega)
  · have := h.lt o (List.mem_append_left _ ho); omega
theorem nestI_none {es : List Evt} {i : Nat} {g : Gr} {os : List Nat} (h : NestI es i g os) (q : Nat) (hq : i ≤ q) : endO g q = none := by
  cases he : endO g q with
  | none => rfl
  | some j =>
    obtain ⟨h1, h2, -⟩ := h.lt q j he
    omega
/-- from the small run to the great one. -/
theorem sim_fwd {F : Prop} {s : Nat} {bs : List Nat} {es es' : List Evt} {i n : Nat} {x : Evt} {g g' g2 : Gr} {os os' : List Nat} (hag : ∀ q, q < n → es'[q + s]? = es[q]?) (hi : i < n) (hbs : bs ≠ [] ∨ (s = 0 ∧ bs = [])) (h : gstep es i x g = some g2) (hs : Sim F s bs i g g' os)
    (hn : NestI es i g os) (hn' : NestI es' (i + s) g' os') : ∃ g2' os2, gstep es' (i + s) x g' = some g2' ∧ Sim F s bs (i + 1) g2 g2' os2 := by
  obtain ⟨op, ends, deep⟩ := g
  obtain ⟨op', ends', deep'⟩ := g'
  obtain ⟨hf, ho, hc⟩ := gstep_iff.1 h
  have e1 := nestI_none hn i (Nat.le_refl _)
  have e2 := nestI_none hn' (i + s) (Nat.le_refl _)
  have ho' : ¬ (op' = [] ∧ (0 < i + s ∨ x.k ≠ 0)) := fun hh => by
    have h1 := hs.op'
    simp only at h1
    rw [hh.1] at h1
    have h2 := cI_nil_iff.1 h1.symm
    simp at h2
    rcases hbs with h3 | ⟨h3, h4⟩
    · exact h3 h2.1
    · refine ho ⟨?_, ?_⟩
      · have h5 := hs.op
        simp only at h5
        rw [h5, h2.2]
        rfl
      · rcases hh.2 with h6 | h6
        · exact .inl (by omega)
        · exact .inr h6
  rcases hc with ⟨hk, rfl⟩ | ⟨hk, ht, rfl⟩ | ⟨hk, t, ht, hnm, rfl⟩
  · exact ⟨_, _, gstep_iff.2 ⟨hf, ho', .inl ⟨hk, rfl⟩⟩, sim_start hs e1 e2⟩
  · refine ⟨_, _, gstep_iff.2 ⟨hf, ho', .inr (.inl ⟨hk, ?_, rfl⟩)⟩, sim_text hs e1 e2⟩
    rcases Nat.eq_zero_or_pos i with h0 | h0
    · exact absurd ⟨(by have := hs.op; simp only at this; rw [this]; exact cI_nil_iff.2 (by cases os with | nil => rfl | cons a r => exact absurd (hs.lt a (by simp)) (by omega))), .inr (by omega)⟩ ho
    · rw [show i + s - 1 = (i - 1) + s by omega, hag (i - 1) (by omega)]
      exact ht
  · have h1 := hs.op
    simp only at h1
    subst h1
    obtain ⟨ini, u, rfl, rfl⟩ := last_cI ht
    have hu := hs.lt u (by simp)
    refine ⟨_, _, gstep_iff.2 ⟨hf, ho', .inr (.inr ⟨hk, ((u + s : Nat) : Int), ?_, ?_, rfl⟩)⟩, sim_end hs e1 e2⟩
    · have h2 := hs.op'
      simp only at h2
      rw [h2, List.map_append, ← List.append_assoc, cI_append]
      simp [cI]
    · rw [Int.toNat_natCast, hag u (by omega)]
      rw [Int.toNat_natCast] at hnm
      exact hnm
/-- from the great run to the small one. -/
theorem sim_bwd {F : Prop} {s : Nat} {bs : List Nat} {es es' : List Evt} {i n : Nat} {x : Evt} {g g' g2' : Gr} {os os' : List Nat} (hag : ∀ q, q < n → es'[q + s]? = es[q]?) (hi : i < n) (hos : os ≠ [] ∨ (i = 0 ∧ x.k = 0)) (h : gstep es' (i + s) x g' = some g2') (hs : Sim F s bs i g g' os)
    (hn : NestI es i g os) (hn' : NestI es' (i + s) g' os') : ∃ g2 os2, gstep es i x g = some g2 ∧ Sim F s bs (i + 1) g2 g2' os2 := by
  obtain ⟨op, ends, deep⟩ := g
  obtain ⟨op', ends', deep'⟩ := g'
  obtain ⟨hf, ho, hc⟩ := gstep_iff.1 h
  have e1 := nestI_none hn i (Nat.le_refl _)
  have e2 := nestI_none hn' (i + s) (Nat.le_refl _)
  have hop := hs.op
  simp only at hop
  have ho' : ¬ (op = [] ∧ (0 < i ∨ x.k ≠ 0)) := fun hh => by
    rcases hos with h0 | h0
    · rw [hh.1] at hop
      exact h0 (cI_nil_iff.1 hop.symm)
    · obtain ⟨-, h1 | h1⟩ := hh <;> omega
  rcases hc with ⟨hk, rfl⟩ | ⟨hk, ht, rfl⟩ | ⟨hk, t, ht, hnm, rfl⟩
  · exact ⟨_, _, gstep_iff.2 ⟨hf, ho', .inl ⟨hk, rfl⟩⟩, sim_start hs e1 e2⟩
  · refine ⟨_, _, gstep_iff.2 ⟨hf, ho', .inr (.inl ⟨hk, ?_, rfl⟩)⟩, sim_text hs e1 e2⟩
    rcases Nat.eq_zero_or_pos i with h0 | h0
    · rcases hos with h1 | h1
      · exfalso
        cases os with
        | nil => exact h1 rfl
        | cons a r => exact absurd (hs.lt a (by simp)) (by omega)
      · omega
    · rw [show i + s - 1 = (i - 1) + s by omega, hag (i - 1) (by omega)] at ht
      exact ht
  · have hne : os ≠ [] := by
      rcases hos with h1 | h1
      · exact h1
      · omega
    subst hop
    have h2 := hs.op'
    simp only at h2
    subst h2
    obtain ⟨ini, u, rfl⟩ : ∃ ini u, os = ini ++ [u] := ⟨os.dropLast, os.getLast hne, (List.dropLast_concat_getLast hne).symm⟩
    have hu := hs.lt u (by simp)
    have htu : t = ((u + s : Nat) : Int) := by
      rw [List.map_append, ← List.append_assoc, cI_append] at ht
      simpa [cI] using ht.symm
    subst htu
    refine ⟨_, _, gstep_iff.2 ⟨hf, ho', .inr (.inr ⟨hk, (u : Int), ?_, ?_, rfl⟩)⟩, sim_end hs e1 e2⟩
    · rw [cI_append]; simp [cI]
    · rw [Int.toNat_natCast, hag u (by omega)] at hnm
      rw [Int.toNat_natCast]
      exact hnm
theorem cI_step {es : List Evt} {i : Nat} {g g2 : Gr} {os os2 : List Nat} {x : Evt} (hx : es[i]? = some x) (h : gstep es i x g = some g2) (hn : NestI es i g os) (ho : g2.op = cI os2) : NestI es (i + 1) g2 os2 := by
  obtain ⟨os', h'⟩ := gstep_nest hx h hn
  have : os' = os2 := cI_inj (h'.op.symm.trans ho)
  subst this
  exact h'
/-- the root lies at the bottom until it ends. -/
def Root (i : Nat) (g : Gr) (os : List Nat) : Prop := (i = 0 ∧ os = []) ∨ (∃ r, os = 0 :: r) ∨ (os = [] ∧ 0 < i ∧ endO g 0 = some (i - 1))
theorem root_step {es : List Evt} {i : Nat} {g g2 : Gr} {os os2 : List Nat} {x : Evt} (h : gstep es i x g = some g2) (hn : NestI es i g os) (ho : g2.op = cI os2) (hr : Root i g os) : Root (i + 1) g2 os2 := by
  obtain ⟨op, ends, deep⟩ := g
  obtain ⟨hf, hq, hc⟩ := gstep_iff.1 h
  have hop := hn.op
  simp only at hop
  change op = cI os at hop
  subst hop
  rcases hr with ⟨h0, h1⟩ | ⟨r, h1⟩ | ⟨h1, h0, -⟩
  · subst h0
    subst h1
    rcases hc with ⟨hk, rfl⟩ | ⟨hk, ht, rfl⟩ | ⟨hk, t, ht, hnm, rfl⟩
    · refine .inr (.inl ⟨[], ?_⟩)
      exact (cI_inj (a := [0]) ho).symm
    · exact absurd ⟨rfl, .inr (by omega)⟩ hq
    · exact absurd ⟨rfl, .inr (by omega)⟩ hq
  · subst h1
    rcases hc with ⟨hk, rfl⟩ | ⟨hk, ht, rfl⟩ | ⟨hk, t, ht, hnm, rfl⟩
    · refine .inr (.inl ⟨r ++ [i], ?_⟩)
      exact (cI_inj (a := 0 :: (r ++ [i])) (by rw [← ho]; simp [cI])).symm
    · exact .inr (.inl ⟨r, (cI_inj ho).symm⟩)
    · obtain ⟨ini, u, hu, rfl⟩ := last_cI ht
      have h2 : os2 = ini := (cI_inj (by rw [← ho]; rw [hu, cI_append]; simp [cI])).symm
      subst h2
      cases os2 with
      | nil =>
        have : u = 0 := by
          injection hu with h3 h4
          exact h3.symm
        subst this
        exact .inr (.inr ⟨rfl, by omega, endO_this⟩)
      | cons a r2 =>
        rw [List.cons_append] at hu
        injection hu with h3 h4
        subst h3
        exact .inr (.inl ⟨r2, rfl⟩)
  · subst h1
    exact absurd ⟨rfl, .inl h0⟩ hq
theorem grun_root {es : List Evt} : ∀ (l : List Evt) (i : Nat) (g gf : Gr) (os : List Nat), es.drop i = l → grun es i l g = some gf → NestI es i g os → Root i g os → ∃ os', NestI es (i + l.length) gf os' ∧ Root (i + l.length) gf os'
  | [], i, g, gf, os, _, h, hn, hr => by cases h; exact ⟨os, hn, hr⟩
  | x :: r, i, g, gf, os, hd, h, hn, hr => by
    rw [grun] at h
    obtain ⟨g1, h1, h2⟩ := Option.bind_eq_some_iff.1 h
    obtain ⟨hx, hd1⟩ := drop_head hd
    obtain ⟨os1, hi1⟩ := gstep_nest hx h1 hn
    rw [List.length_cons, show i + (r.length + 1) = i + 1 + r.length by omega]
    exact grun_root r (i + 1) g1 gf os1 hd1 h2 hi1 (root_step h1 hn hi1.op hr)
theorem growP_run {es : List Evt} {g : Gr} (h : growP es = some g) : grun es 0 es ⟨[], [], 0⟩ = some g ∧ es ≠ [] ∧ g.op = [] := by
  unfold growP at h
  obtain ⟨g1, h1, h2⟩ := Option.bind_eq_some_iff.1 h
  unfold gfin at h2
  split at h2
  · cases h2
  · rename_i hh
    cases h2
    exact ⟨h1, fun e => hh (.inl e), by
      by_cases e : g.op = []
      · exact e
      · exact absurd (.inr e) hh⟩
theorem growP_mk {es : List Evt} {g : Gr} (h : grun es 0 es ⟨[], [], 0⟩ = some g) (he : es ≠ []) (ho : g.op = []) : growP es = some g := by
  unfold growP
  rw [h]
  show gfin es g = _
  unfold gfin
  rw [if_neg (fun hh => hh.elim he fun h2 => h2 ho)]
/-- the root ends last. -/
theorem growP_last {es : List Evt} {g : Gr} (h : growP es = some g) : endO g 0 = some (es.length - 1) ∧ 0 < es.length := by
  obtain ⟨h1, h2, h3⟩ := growP_run h
  obtain ⟨os, hn, hr⟩ := grun_root es 0 _ _ [] rfl h1 (nest0 es) (.inl ⟨rfl, rfl⟩)
  have hos : os = [] := by
    have h4 := hn.op
    rw [h3] at h4
    exact List.map_eq_nil_iff.1 h4.symm
  have hlen : 0 < es.length := List.length_pos_iff.2 h2
  subst hos
  rcases hr with ⟨h4, -⟩ | ⟨r, h4⟩ | ⟨-, -, h4⟩
  · omega
  · cases h4
  · rw [Nat.zero_add] at h4
    exact ⟨h4, hlen⟩
theorem growP_fld {es : List Evt} {g : Gr} (h : growP es = some g) : ∀ x ∈ es, fldB x = true := by
  obtain ⟨h1, -, -⟩ := growP_run h
  have main : ∀ (l : List Evt) (i : Nat) (g gf : Gr), grun es i l g = some gf → ∀ x ∈ l, fldB x = true := by
    intro l
    induction l with
    | nil => intro i g gf _ x hx; cases hx
    | cons y r ih =>
      intro i g gf h x hx
      rw [grun] at h
      obtain ⟨g1, h1, h2⟩ := Option.bind_eq_some_iff.1 h
      rcases List.mem_cons.1 hx with rfl | hx
      · obtain ⟨op, ends, deep⟩ := g
        exact (gstep_iff.1 h1).1
      · exact ih _ _ _ h2 x hx
  exact main es 0 _ _ h1
theorem grun_append {es : List Evt} : ∀ (a b : List Evt) (i : Nat) (g : Gr), grun es i (a ++ b) g = (grun es i a g).bind (grun es (i + a.length) b)
  | [], b, i, g => rfl
  | x :: a, b, i, g => by
    rw [List.cons_append, grun, grun, Option.bind_assoc]
    congr 1
    funext g1
    rw [grun_append a b (i + 1) g1, List.length_cons, show i + 1 + a.length = i + (a.length + 1) by omega]
/-- an end that is known stays. -/
theorem gstep_keep {es : List Evt} {i : Nat} {x : Evt} {g g2 : Gr} {os : List Nat} (h : gstep es i x g = some g2) (hn : NestI es i g os) (q : Nat) : (∀ j, endO g q = some j → endO g2 q = some j) ∧ (endO g q = none → endO g2 q = none ∨ endO g2 q = some i) := by
  obtain ⟨op, ends, deep⟩ := g
  obtain ⟨hf, hq, hc⟩ := gstep_iff.1 h
  rcases hc with ⟨hk, rfl⟩ | ⟨hk, ht, rfl⟩ | ⟨hk, t, ht, hnm, rfl⟩
  · exact ⟨fun j h => h, fun h => .inl h⟩
  · exact ⟨fun j h => h, fun h => .inl h⟩
  · have hop := hn.op
    simp only at hop
    change op = cI os at hop
    subst hop
    obtain ⟨ini, u, hu, rfl⟩ := last_cI ht
    by_cases e : q = u
    · subst e
      refine ⟨fun j hj => ?_, fun _ => .inr endO_this⟩
      have := (hn.lt q j hj).2.2.1
      exact absurd (by rw [hu]; simp) this
    · rw [endO_other (op := cI os) (d := deep) e]
      exact ⟨fun j h => h, fun h => .inl h⟩
theorem grun_keep {es : List Evt} : ∀ (l : List Evt) (i : Nat) (g gf : Gr) (os : List Nat), es.drop i = l → grun es i l g = some gf → NestI es i g os → ∀ q, (∀ j, endO g q = some j → endO gf q = some j) ∧ (endO g q = none → ∀ j, endO gf q = some j → i ≤ j)
  | [], i, g, gf, os, _, h, hn, q => by cases h; exact ⟨fun j h => h, fun h j hj => by rw [h] at hj; cases hj⟩
  | x :: r, i, g, gf, os, hd, h, hn, q => by
    rw [grun] at h
    obtain ⟨g1, h1, h2⟩ := Option.bind_eq_some_iff.1 h
    obtain ⟨hx, hd1⟩ := drop_head hd
    obtain ⟨os1, hi1⟩ := gstep_nest hx h1 hn
    obtain ⟨k1, k2⟩ := gstep_keep h1 hn q
    obtain ⟨k3, k4⟩ := grun_keep r (i + 1) g1 gf os1 hd1 h2 hi1 q
    refine ⟨fun j hj => k3 j (k1 j hj), fun hq j hj => ?_⟩
    rcases k2 hq with h3 | h3
    · have := k4 h3 j hj; omega
    · have := k3 i h3
      rw [this] at hj
      injection hj with hj
      omega
theorem fwd_run {F : Prop} {s : Nat} {bs : List Nat} {es es' : List Evt} {n : Nat} (hag : ∀ q, q < n → es'[q + s]? = es[q]?) (hbs : bs ≠ [] ∨ (s = 0 ∧ bs = [])) : ∀ (l : List Evt) (i : Nat) (g g' gf : Gr) (os os' : List Nat), es.drop i = l → i + l.length ≤ n → grun es i l g = some gf → Sim F s bs i g g' os → NestI es i g os → NestI es' (i + s) g' os' →
    ∃ gf' osf os'f, grun es' (i + s) l g' = some gf' ∧ Sim F s bs (i + l.length) gf gf' osf ∧ NestI es' (i + l.length + s) gf' os'f
  | [], i, g, g', gf, os, os', _, _, h, hs, hn, hn' => by cases h; exact ⟨g', os, os', rfl, hs, hn'⟩
  | x :: r, i, g, g', gf, os, os', hd, hl, h, hs, hn, hn' => by
    rw [grun] at h
    obtain ⟨g1, h1, h2⟩ := Option.bind_eq_some_iff.1 h
    obtain ⟨hx, hd1⟩ := drop_head hd
    rw [List.length_cons] at hl
    obtain ⟨g1', os2, h3, hs1⟩ := sim_fwd hag (by omega) hbs h1 hs hn hn'
    have hx' : es'[i + s]? = some x := by rw [hag i (by omega)]; exact hx
    have hn1 := cI_step hx h1 hn hs1.op
    have hn1' := cI_step hx' h3 hn' hs1.op'
    rw [show i + s + 1 = i + 1 + s by omega] at hn1'
    obtain ⟨gf', osf, os'f, k1, k2, k3⟩ := fwd_run hag hbs r (i + 1) g1 g1' gf os2 _ hd1 (by omega) h2 hs1 hn1 hn1'
    refine ⟨gf', osf, os'f, ?_, ?_, ?_⟩
    · rw [grun, h3]
      show grun es' (i + s + 1) r g1' = _
      rw [show i + s + 1 = i + 1 + s by omega]
      exact k1
    · rw [List.length_cons, show i + (r.length + 1) = i + 1 + r.length by omega]; exact k2
    · rw [List.length_cons, show i + (r.length + 1) = i + 1 + r.length by omega]; exact k3
theorem sub_run {s e : Nat} {bs : List Nat} {es es' : List Evt} (hag : ∀ q, q < e + 1 - s → es'[q + s]? = es[q]?) : ∀ (l : List Evt) (i : Nat) (g g' gf : Gr) (os os' r0 : List Nat), es'.drop (i + s) = l → grun es' (i + s) l g' = some gf → Sim False s bs i g g' os → NestI es i g os → NestI es' (i + s) g' os' → Root i g os → os = 0 :: r0 → endO gf s = some e →
    ∃ g2, grun es i (l.take (e + 1 - (i + s))) g = some g2 ∧ g2.op = [] ∧ ∀ q, q < e + 1 - s → endO gf (q + s) = (endO g2 q).map (· + s)
  | [], i, g, g', gf, os, os', r0, _, h, hs, hn, hn', _, ho, he => by
    cases h
    have hm : s ∈ os' := by
      have : os' = bs ++ os.map (· + s) := cI_inj (hn'.op.symm.trans hs.op')
      rw [this, ho]
      simp
    exact absurd hm (hn'.lt s e he).2.2.1
  | x :: r, i, g, g', gf, os, os', r0, hd, h, hs, hn, hn', hr, ho, he => by
    have hs0 : endO g' s = none := by
      have hm : s ∈ os' := by
        have : os' = bs ++ os.map (· + s) := cI_inj (hn'.op.symm.trans hs.op')
        rw [this, ho]
        simp
      cases hh : endO g' s with
      | none => rfl
      | some j => exact absurd hm (hn'.lt s j hh).2.2.1
    have hie : i + s ≤ e := (grun_keep (x :: r) (i + s) g' gf os' hd h hn' s).2 hs0 e he
    rw [grun] at h
    obtain ⟨g1', h1, h2⟩ := Option.bind_eq_some_iff.1 h
    obtain ⟨hx', hd1⟩ := drop_head hd
    have hx : es[i]? = some x := by rw [← hag i (by omega)]; exact hx'
    obtain ⟨g2, os2, h3, hs1⟩ := sim_bwd hag (by omega) (.inl (by rw [ho]; simp)) h1 hs hn hn'
    have hn1 := cI_step hx h3 hn hs1.op
    have hn1' := cI_step hx' h1 hn' hs1.op'
    have hr1 := root_step h3 hn hs1.op hr
    rw [show e + 1 - (i + s) = (e + 1 - (i + 1 + s)) + 1 by omega, List.take_succ_cons, grun, h3]
    rw [show i + s + 1 = i + 1 + s by omega] at hn1' h2 hd1
    rcases hr1 with ⟨h4, -⟩ | ⟨r2, h4⟩ | ⟨h4, -, h5⟩
    · omega
    · exact sub_run hag r (i + 1) g2 g1' gf os2 _ r2 hd1 h2 hs1 hn1 hn1' (.inr (.inl ⟨r2, h4⟩)) h4 he
    · rw [Nat.add_sub_cancel] at h5
      have h6 := hs1.ends 0 (by omega)
      rw [h5, Nat.zero_add] at h6
      have h7 := (grun_keep r (i + 1 + s) g1' gf _ hd1 h2 hn1' s).1 (i + s) h6
      rw [he] at h7
      injection h7 with h7
      subst h7
      rw [show i + s + 1 - (i + 1 + s) = 0 by omega, List.take_zero]
      refine ⟨g2, rfl, by rw [hs1.op, h4]; rfl, fun q hq => ?_⟩
      have h8 := hs1.ends q (by omega)
      cases h9 : endO g2 q with
      | some j =>
        rw [h9] at h8
        exact (grun_keep r (i + 1 + s) g1' gf _ hd1 h2 hn1' (q + s)).1 _ h8
      | none =>
        cases h10 : endO gf (q + s) with
        | none => rfl
        | some j =>
          exfalso
          obtain ⟨osf, hnf⟩ := grun_nest r (i + 1 + s) g1' gf _ hd1 h2 hn1'
          obtain ⟨-, -, -, y, -, hy, -, hyk, -⟩ := hnf.lt (q + s) j h10
          rw [hag q (by omega)] at hy
          rcases hn1.start q (by omega) (by rw [hy, ← hyk]; rfl) with h11 | ⟨j', h11⟩
          · rw [h4] at h11; cases h11
          · rw [h9] at h11; cases h11
/-- an element, from its place to its end, is whole; its ends are those that they are. -/
theorem sub_whole {es' : List Evt} {gf : Gr} {s e : Nat} (h : growP es' = some gf) (he : endO gf s = some e) : ∃ g2, growP ((es'.drop s).take (e + 1 - s)) = some g2 ∧ ∀ q, q < e + 1 - s → endO gf (q + s) = (endO g2 q).map (· + s) := by
  obtain ⟨h1, h2, h3⟩ := growP_run h
  obtain ⟨hse, hel, x, y, hx, hy, hxk, -⟩ := (growP_nest h).1.lt s e he
  have hsp : es' = es'.take s ++ es'.drop s := (List.take_append_drop s es').symm
  have hag : ∀ q, q < e + 1 - s → es'[q + s]? = ((es'.drop s).take (e + 1 - s))[q]? := fun q hq => by
    rw [List.getElem?_take_of_lt hq, List.getElem?_drop, Nat.add_comm]
  rw [show grun es' 0 es' ⟨[], [], 0⟩ = grun es' 0 (es'.take s ++ es'.drop s) ⟨[], [], 0⟩ by rw [← hsp], grun_append] at h1
  obtain ⟨gs, h4, h5⟩ := Option.bind_eq_some_iff.1 h1
  have hlt : (es'.take s).length = s := by rw [List.length_take]; omega
  rw [hlt, Nat.zero_add] at h5
  have hns : ∃ bs, NestI es' s gs bs := by
    have main : ∀ (l : List Evt) (i : Nat) (g gf : Gr) (os : List Nat), l <+: es'.drop i → grun es' i l g = some gf → NestI es' i g os → ∃ os', NestI es' (i + l.length) gf os' := by
      intro l
      induction l with
      | nil => intro i g gf os _ h hn; cases h; exact ⟨os, hn⟩
      | cons x r ih =>
        intro i g gf os hd h hn
        rw [grun] at h
        obtain ⟨g1, h1, h2⟩ := Option.bind_eq_some_iff.1 h
        obtain ⟨t, ht⟩ := hd
        rw [List.cons_append] at ht
        obtain ⟨hx, hd1⟩ := drop_head ht.symm
        obtain ⟨os1, hi1⟩ := gstep_nest hx h1 hn
        rw [List.length_cons, show i + (r.length + 1) = i + 1 + r.length by omega]
        exact ih (i + 1) g1 gf os1 ⟨t, hd1.symm⟩ h2 hi1
    have := main (es'.take s) 0 _ _ [] (by rw [List.drop_zero]; exact List.take_prefix _ _) h4 (nest0 es')
    rwa [hlt, Nat.zero_add] at this
  obtain ⟨bs, hns⟩ := hns
  have hd : es'.drop s = x :: es'.drop (s + 1) := by
    obtain ⟨hx1, hx2⟩ := List.getElem?_eq_some_iff.1 hx
    rw [← hx2, List.drop_eq_getElem_cons hx1]
  have hS0 : Sim False s bs 0 ⟨[], [], 0⟩ gs [] := ⟨rfl, by rw [List.map_nil, List.append_nil]; exact hns.op, fun q hq => by omega, fun f => f.elim, fun o ho => by cases ho⟩
  rw [hd, grun] at h5
  obtain ⟨g1', h6, h7⟩ := Option.bind_eq_some_iff.1 h5
  obtain ⟨g2, os2, h8, hs1⟩ := sim_bwd (n := e + 1 - s) (es := (es'.drop s).take (e + 1 - s)) hag (by omega) (.inr ⟨rfl, hxk⟩) (by rw [Nat.zero_add]; exact h6) hS0 (nest0 _) (by rw [Nat.zero_add]; exact hns)
  have hx0 : ((es'.drop s).take (e + 1 - s))[0]? = some x := by rw [← hag 0 (by omega), Nat.zero_add]; exact hx
  have hn1 := cI_step hx0 h8 (nest0 _) hs1.op
  have hn1' := cI_step hx h6 hns hs1.op'
  have hr1 := root_step h8 (nest0 _) hs1.op (.inl ⟨rfl, rfl⟩)
  have hop2 : os2 = [0] := by
    obtain ⟨-, -, hc⟩ := gstep_iff.1 h8
    have h9 := hs1.op
    rcases hc with ⟨hk, rfl⟩ | ⟨hk, -⟩ | ⟨hk, -⟩
    · exact (cI_inj (a := [0]) h9).symm
    · omega
    · omega
  have hn1'' : NestI es' (1 + s) g1' (bs ++ os2.map (· + s)) := by rw [Nat.add_comm]; exact hn1'
  obtain ⟨gq, k1, k2, k3⟩ := sub_run hag (es'.drop (s + 1)) 1 g2 g1' gf os2 _ [] (by rw [Nat.add_comm]) (by rw [Nat.add_comm]; exact h7) hs1 hn1 hn1'' hr1 hop2 he
  refine ⟨gq, growP_mk ?_ ?_ k2, k3⟩
  · rw [show grun ((es'.drop s).take (e + 1 - s)) 0 ((es'.drop s).take (e + 1 - s)) ⟨[], [], 0⟩ = grun ((es'.drop s).take (e + 1 - s)) 0 (x :: (es'.drop (s + 1)).take (e + 1 - (1 + s))) ⟨[], [], 0⟩ by
      congr 1
      rw [hd, show e + 1 - s = (e + 1 - (1 + s)) + 1 by omega, List.take_succ_cons], grun, h8]
    exact k1
  · intro e0
    rw [e0] at hx0
    cases hx0
/-- whole events within an element more. -/
def wrapL (n : ByteArray × ByteArray) (es : List Evt) : List Evt := ⟨0, n, [], ⟨#[]⟩⟩ :: (es ++ [⟨1, n, [], ⟨#[]⟩⟩])
theorem wrap_whole {es : List Evt} {g : Gr} (n : ByteArray × ByteArray) (hnl : emB n.2 = false) (h : growP es = some g) :
    ∃ g', growP (wrapL n es) = some g' ∧ g'.deep = g.deep + 1 ∧ endO g' 0 = some (es.length + 1) ∧ endO g' 1 = some es.length := by
  obtain ⟨h1, h2, h3⟩ := growP_run h
  have hem : emB ⟨#[]⟩ = true := by unfold emB; rw [ByteArray.toList_eq]; rfl
  have f0 : fldB ⟨0, n, [], ⟨#[]⟩⟩ = true := by unfold fldB; simp [attGo, hnl, hem]
  have f1 : fldB ⟨1, n, [], ⟨#[]⟩⟩ = true := by unfold fldB; simp [hnl, hem]
  have hs0 : gstep (wrapL n es) 0 ⟨0, n, [], ⟨#[]⟩⟩ ⟨[], [], 0⟩ = some ⟨[(0 : Nat)], [], 1⟩ := gstep_iff.2 ⟨f0, by simp, .inl ⟨rfl, rfl⟩⟩
  have hn1 : NestI (wrapL n es) (0 + 1) ⟨[((0 : Nat) : Int)], [], 1⟩ [0] := cI_step rfl hs0 (nest0 _) rfl
  have hag : ∀ q, q < es.length → (wrapL n es)[q + 1]? = es[q]? := fun q hq => by
    unfold wrapL
    rw [List.getElem?_cons_succ, List.getElem?_append_left hq]
  have hS : Sim True 1 [0] 0 ⟨[], [], 0⟩ ⟨[((0 : Nat) : Int)], [], 1⟩ [] := ⟨rfl, rfl, fun q hq => by omega, fun _ => rfl, fun o ho => by cases ho⟩
  obtain ⟨gf', osf, os'f, k1, k2, k3⟩ := fwd_run hag (.inl (by simp)) es 0 _ _ g [] [0] rfl (by omega) h1 hS (nest0 es) hn1
  rw [Nat.zero_add] at k1 k2 k3
  have hosf : osf = [] := cI_nil_iff.1 (by rw [← k2.op, h3])
  subst hosf
  obtain ⟨op', ends', deep'⟩ := gf'
  have ho' := k2.op'
  simp only [List.map_nil, List.append_nil] at ho'
  subst ho'
  have hsE : gstep (wrapL n es) (es.length + 1) ⟨1, n, [], ⟨#[]⟩⟩ ⟨cI [0], ends', deep'⟩ = some ⟨[], aPut ends' ((0 : Nat) : Int) (.int .i64 (es.length + 1 : Nat)), deep'⟩ :=
    gstep_iff.2 ⟨f1, by simp [cI], .inr (.inr ⟨rfl, 0, rfl, rfl, rfl⟩)⟩
  refine ⟨⟨[], aPut ends' ((0 : Nat) : Int) (.int .i64 (es.length + 1 : Nat)), deep'⟩, growP_mk ?_ (by unfold wrapL; simp) rfl, ?_, endO_this, ?_⟩
  · rw [show grun (wrapL n es) 0 (wrapL n es) ⟨[], [], 0⟩ = grun (wrapL n es) 0 (⟨0, n, [], ⟨#[]⟩⟩ :: (es ++ [⟨1, n, [], ⟨#[]⟩⟩])) ⟨[], [], 0⟩ from rfl, grun, hs0]
    show grun (wrapL n es) (0 + 1) (es ++ [⟨1, n, [], ⟨#[]⟩⟩]) ⟨[((0 : Nat) : Int)], [], 1⟩ = _
    rw [grun_append, Nat.zero_add, k1]
    show grun (wrapL n es) (1 + es.length) [⟨1, n, [], ⟨#[]⟩⟩] ⟨cI [0], ends', deep'⟩ = _
    rw [Nat.add_comm, grun, hsE]
    rfl
  · exact k2.deep trivial
  · rw [endO_other (op := cI [0]) (d := deep') (by omega)]
    have h4 := k2.ends 0 (growP_last h).2
    rw [(growP_last h).1] at h4
    have h5 := (growP_last h).2
    rw [show (1 : Nat) = 0 + 1 from rfl, h4]
    show some (es.length - 1 + 1) = _
    congr 1
    omega
/-- behind whole events no end can stand. -/
theorem whole_more {es : List Evt} {g : Gr} (h : growP es = some g) (x : Evt) : growP (es ++ [x]) = none := by
  obtain ⟨h1, h2, h3⟩ := growP_run h
  have hag : ∀ q, q < es.length → (es ++ [x])[q + 0]? = es[q]? := fun q hq => by rw [Nat.add_zero, List.getElem?_append_left hq]
  have hS : Sim False 0 [] 0 ⟨[], [], 0⟩ ⟨[], [], 0⟩ [] := ⟨rfl, rfl, fun q hq => by omega, fun f => f.elim, fun o ho => by cases ho⟩
  obtain ⟨gf', osf, os'f, k1, k2, k3⟩ := fwd_run hag (.inr ⟨rfl, rfl⟩) es 0 _ _ g [] [] rfl (by omega) h1 hS (nest0 es) (nest0 _)
  have hosf : osf = [] := cI_nil_iff.1 (by rw [← k2.op, h3])
  subst hosf
  obtain ⟨op', ends', deep'⟩ := gf'
  have ho' := k2.op'
  simp only [List.map_nil, List.append_nil] at ho'
  subst ho'
  unfold growP
  rw [show grun (es ++ [x]) 0 (es ++ [x]) ⟨[], [], 0⟩ = none by
    rw [grun_append, show (0 : Nat) = 0 + 0 from rfl, k1]
    show grun (es ++ [x]) (0 + 0 + es.length) [x] ⟨cI [], ends', deep'⟩ = none
    rw [grun]
    cases hg : gstep (es ++ [x]) (0 + 0 + es.length) x ⟨cI [], ends', deep'⟩ with
    | none => rfl
    | some g2 => exact absurd ⟨rfl, .inl (by have := (growP_last h).2; omega)⟩ (gstep_iff.1 hg).2.1]
  rfl
end Go.Proofs.Yteefopeclfojiaa
