/-
  Layer 16 in plain terms: elements lie within one another or apart.
-/
import Derived.Test.YteefopeclfojiaaEvE
namespace Go.Proofs.Yteefopeclfojiaa
open Go.RowKit
/-- where the element that begins at a place ends. -/
def endO (g : Gr) (p : Nat) : Option Nat := match aGet g.ends (p : Int) with
  | some (.int _ j) => some j.toNat
  | _ => none
/-- how elements lie. -/
structure Nest (es : List Evt) (E : Nat → Option Nat) : Prop where
  start : ∀ p : Nat, (es[p]?).map Evt.k = some 0 ↔ ∃ j, E p = some j
  lt : ∀ p j : Nat, E p = some j → p < j ∧ j < es.length ∧ ∃ x y, es[p]? = some x ∧ es[j]? = some y ∧ x.k = 0 ∧ y.k = 1 ∧ x.n = y.n
  lam : ∀ p j p' j' : Nat, E p = some j → E p' = some j' → p < p' → j < p' ∨ j' < j
  surj : ∀ (q : Nat) (y : Evt), es[q]? = some y → y.k ≠ 0 → y.k ≠ 2 → ∃ p, E p = some q
/-- .. within a run, at i. -/
structure NestI (es : List Evt) (i : Nat) (g : Gr) (os : List Nat) : Prop where
  op : g.op = os.map fun p : Nat => (p : Int)
  asc : os.Pairwise (· < ·)
  opl : ∀ o ∈ os, o < i ∧ (es[o]?).map Evt.k = some 0
  cell : ∀ (p : Nat) (u : Value), aGet g.ends (p : Int) = some u → ∃ j : Nat, u = .int .i64 j
  start : ∀ p : Nat, p < i → (es[p]?).map Evt.k = some 0 → p ∈ os ∨ ∃ j, endO g p = some j
  lt : ∀ p j : Nat, endO g p = some j → p < j ∧ j < i ∧ p ∉ os ∧ ∃ x y, es[p]? = some x ∧ es[j]? = some y ∧ x.k = 0 ∧ y.k = 1 ∧ x.n = y.n
  lam : ∀ p j p' j' : Nat, endO g p = some j → endO g p' = some j' → p < p' → j < p' ∨ j' < j
  opd : ∀ o ∈ os, ∀ p j : Nat, endO g p = some j → p < o → j < o
  surj : ∀ (q : Nat) (y : Evt), q < i → es[q]? = some y → y.k ≠ 0 → y.k ≠ 2 → ∃ p, endO g p = some q
theorem endO_put (g : Gr) (op : List Int) (t i p : Nat) (d : Nat) : endO ⟨op, aPut g.ends (t : Int) (.int .i64 i), d⟩ p = if p = t then some i else endO g p := by
  unfold endO
  simp only
  rw [aGet_put]
  by_cases h : p = t
  · subst h
    rw [if_pos rfl, if_pos rfl]
    rfl
  · rw [if_neg h, if_neg (by omega)]
theorem endO_same {op : List Int} {ends : List (Int × Value)} {d : Nat} {op' : List Int} {d' : Nat} (p : Nat) : endO ⟨op, ends, d⟩ p = endO ⟨op', ends, d'⟩ p := rfl
theorem fldB_k {x : Evt} (h : fldB x = true) : x.k = 0 ∨ x.k = 1 ∨ x.k = 2 := by
  unfold fldB at h
  split at h
  · exact .inr (.inr ‹_›)
  · split at h
    · exact .inr (.inl ‹_›)
    · split at h
      · exact .inl ‹_›
      · cases h
theorem asc_concat {os : List Nat} {t : Nat} (h : (os ++ [t]).Pairwise (· < ·)) : os.Pairwise (· < ·) ∧ ∀ o ∈ os, o < t := by
  rw [List.pairwise_append] at h
  exact ⟨h.1, fun o ho => h.2.2 o ho t (by simp)⟩
theorem gstep_nest {es : List Evt} {i : Nat} {x : Evt} {g g' : Gr} {os : List Nat} (hx : es[i]? = some x) (h : gstep es i x g = some g') (hi : NestI es i g os) : ∃ os', NestI es (i + 1) g' os' := by
  obtain ⟨op, ends, deep⟩ := g
  unfold gstep at h
  split at h
  · cases h
  · rename_i hf
    have hk3 := fldB_k (show fldB x = true by simpa using hf)
    unfold gbody at h
    simp only at h
    split at h
    · cases h
    · split at h
      · rename_i hk
        cases h
        have hop := hi.op
        simp only at hop
        subst hop
        refine ⟨os ++ [i], by simp, ?_, ?_, hi.cell, ?_, ?_, hi.lam, ?_, ?_⟩
        · rw [List.pairwise_append]
          refine ⟨hi.asc, by simp, fun a ha b hb => ?_⟩
          rw [List.mem_singleton] at hb
          subst hb
          exact (hi.opl a ha).1
        · intro o ho
          rcases List.mem_append.1 ho with ho | ho
          · exact ⟨by have := (hi.opl o ho).1; omega, (hi.opl o ho).2⟩
          · rw [List.mem_singleton] at ho
            subst ho
            exact ⟨by omega, by rw [hx, ← hk]; rfl⟩
        · intro p hp hpk
          by_cases e : p = i
          · exact .inl (by subst e; simp)
          · rcases hi.start p (by omega) hpk with h3 | h3
            · exact .inl (List.mem_append_left _ h3)
            · exact .inr h3
        · intro p j hp
          obtain ⟨h1, h2, h3, h4⟩ := hi.lt p j hp
          refine ⟨h1, by omega, fun hm => ?_, h4⟩
          rcases List.mem_append.1 hm with hm | hm
          · exact h3 hm
          · rw [List.mem_singleton] at hm
            omega
        · intro o ho p j hp hpo
          rcases List.mem_append.1 ho with ho | ho
          · exact hi.opd o ho p j hp hpo
          · rw [List.mem_singleton] at ho
            subst ho
            exact (hi.lt p j hp).2.1
        · intro q y hq hy h1 h2
          by_cases e : q = i
          · subst e
            rw [hx] at hy
            cases hy
            exact absurd hk h1
          · exact hi.surj q y (by omega) hy h1 h2
      · rename_i hk
        have keep : x.k = 2 → NestI es (i + 1) ⟨op, ends, deep⟩ os := fun hk2 => ⟨hi.op, hi.asc, fun o ho => ⟨by have := (hi.opl o ho).1; omega, (hi.opl o ho).2⟩, hi.cell, fun p hp hpk => by
            by_cases e : p = i
            · subst e
              rw [hx] at hpk
              exact absurd (by simpa using hpk) hk
            · exact hi.start p (by omega) hpk, fun p j hp => by
            obtain ⟨h1, h2, h3⟩ := hi.lt p j hp
            exact ⟨h1, by omega, h3⟩, hi.lam, hi.opd, fun q y hq hy h1 h2 => by
            by_cases e : q = i
            · subst e
              rw [hx] at hy
              cases hy
              exact absurd hk2 h2
            · exact hi.surj q y (by omega) hy h1 h2⟩
        split at h
        · rename_i hk2
          split at h
          · cases h
          · cases h
            exact ⟨os, keep hk2⟩
        · rename_i hk2
          split at h
          · cases h
          · rename_i t ht
            split at h
            · rename_i hnm
              cases h
              have hop := hi.op
              simp only at hop
              subst hop
              have hne : os ≠ [] := by
                intro e
                subst e
                simp at ht
              obtain ⟨ini, tn, rfl⟩ : ∃ ini tn, os = ini ++ [tn] := ⟨os.dropLast, os.getLast hne, (List.dropLast_concat_getLast hne).symm⟩
              rw [List.map_append, List.map_cons, List.map_nil, List.getLast?_concat] at ht
              injection ht with ht
              subst ht
              rw [Int.toNat_natCast] at hnm
              obtain ⟨ha1, ha2⟩ := asc_concat hi.asc
              obtain ⟨hti, htk⟩ := hi.opl tn (by simp)
              have hE : ∀ p, endO ⟨((ini ++ [tn]).map fun p : Nat => (p : Int)).dropLast, aPut ends (tn : Int) (.int .i64 i), deep⟩ p = if p = tn then some i else endO ⟨(ini ++ [tn]).map fun p : Nat => (p : Int), ends, deep⟩ p := fun p => endO_put ⟨(ini ++ [tn]).map fun p : Nat => (p : Int), ends, deep⟩ _ tn i p deep
              obtain ⟨z, hz⟩ : ∃ z, es[tn]? = some z := by
                cases hz : es[tn]? with
                | none => rw [hz] at htk; cases htk
                | some z => exact ⟨z, rfl⟩
              have hzk : z.k = 0 := by rw [hz] at htk; simpa using htk
              have hzn : z.n = x.n := by rw [hz] at hnm; simpa using hnm
              have hx1 : x.k = 1 := hk3.elim (fun h => absurd h hk) fun h => h.elim id fun h => absurd h hk2
              refine ⟨ini, by simp, ha1, fun o ho => ⟨by have := (hi.opl o (List.mem_append_left _ ho)).1; omega, (hi.opl o (List.mem_append_left _ ho)).2⟩, ?_, ?_, ?_, ?_, ?_, ?_⟩
              · intro p u hu
                simp only at hu
                rw [aGet_put] at hu
                split at hu
                · injection hu with hu
                  exact ⟨i, hu.symm⟩
                · exact hi.cell p u hu
              · intro p hp hpk
                rw [hE]
                by_cases e : p = tn
                · exact .inr ⟨i, by rw [if_pos e]⟩
                · rw [if_neg e]
                  have hpi : p ≠ i := fun e => by
                    subst e
                    rw [hx] at hpk
                    exact hk (by simpa using hpk)
                  rcases hi.start p (by omega) hpk with h3 | h3
                  · rcases List.mem_append.1 h3 with h3 | h3
                    · exact .inl h3
                    · exact absurd (List.mem_singleton.1 h3) e
                  · exact .inr h3
              · intro p j hp
                rw [hE] at hp
                split at hp
                · rename_i e
                  subst e
                  injection hp with hp
                  subst hp
                  exact ⟨hti, by omega, fun hm => by have := ha2 p hm; omega, z, x, hz, hx, hzk, hx1, hzn⟩
                · obtain ⟨h1, h2, h3, h4⟩ := hi.lt p j hp
                  exact ⟨h1, by omega, fun hm => h3 (List.mem_append_left _ hm), h4⟩
              · intro p j p' j' hp hp' hpp
                rw [hE] at hp hp'
                split at hp
                · rename_i e
                  subst e
                  injection hp with hp
                  subst hp
                  rw [if_neg (by omega)] at hp'
                  exact .inr (hi.lt p' j' hp').2.1
                · split at hp'
                  · rename_i e
                    subst e
                    exact .inl (hi.opd p' (by simp) p j hp hpp)
                  · exact hi.lam p j p' j' hp hp' hpp
              · intro o ho p j hp hpo
                rw [hE] at hp
                split at hp
                · rename_i e
                  have := ha2 o ho
                  omega
                · exact hi.opd o (List.mem_append_left _ ho) p j hp hpo
              · intro q y hq hy h1 h2
                by_cases e : q = i
                · subst e
                  exact ⟨tn, by rw [hE, if_pos rfl]⟩
                · obtain ⟨p, hp⟩ := hi.surj q y (by omega) hy h1 h2
                  refine ⟨p, ?_⟩
                  rw [hE, if_neg]
                  · exact hp
                  · intro e
                    subst e
                    exact (hi.lt p q hp).2.2.1 (by simp)
            · cases h
theorem drop_head {es r : List Evt} {x : Evt} {i : Nat} (hd : es.drop i = x :: r) : es[i]? = some x ∧ es.drop (i + 1) = r := by
  constructor
  · have := List.getElem?_drop (xs := es) (i := i) (j := 0)
    rw [hd] at this
    simpa using this.symm
  · rw [← List.drop_drop, hd]; rfl
theorem grun_nest {es : List Evt} : ∀ (l : List Evt) (i : Nat) (g g' : Gr) (os : List Nat), es.drop i = l → grun es i l g = some g' → NestI es i g os → ∃ os', NestI es (i + l.length) g' os'
  | [], i, g, g', os, _, h, hi => by cases h; exact ⟨os, hi⟩
  | x :: r, i, g, g', os, hd, h, hi => by
    rw [grun] at h
    obtain ⟨g1, h1, h2⟩ := Option.bind_eq_some_iff.1 h
    obtain ⟨hx, hd1⟩ := drop_head hd
    obtain ⟨os1, hi1⟩ := gstep_nest hx h1 hi
    rw [List.length_cons, show i + (r.length + 1) = i + 1 + r.length by omega]
    exact grun_nest r (i + 1) g1 g' os1 hd1 h2 hi1
theorem nest0 (es : List Evt) : NestI es 0 ⟨[], [], 0⟩ [] :=
  ⟨rfl, List.Pairwise.nil, fun o h => (by cases h), fun p u h => (by cases h), fun p hp => by omega, fun p j h => (by cases h), fun p j p' j' h => (by cases h), fun o h => (by cases h), fun q y hq => by omega⟩
/-- elements of events that are whole. -/
theorem growP_nest {es : List Evt} {g : Gr} (h : growP es = some g) : Nest es (endO g) ∧ ∀ (p : Nat) (u : Value), aGet g.ends (p : Int) = some u → ∃ j : Nat, u = .int .i64 j := by
  unfold growP at h
  obtain ⟨g1, h1, h2⟩ := Option.bind_eq_some_iff.1 h
  obtain ⟨os, hi⟩ := grun_nest es 0 ⟨[], [], 0⟩ g1 [] rfl h1 (nest0 es)
  unfold gfin at h2
  split at h2
  · cases h2
  · rename_i hh
    cases h2
    have hop : g.op = [] := by
      by_cases e : g.op = []
      · exact e
      · exact absurd (.inr e) hh
    have hos : os = [] := by
      have := hi.op
      rw [hop] at this
      simpa using this.symm
    subst hos
    rw [Nat.zero_add] at hi
    refine ⟨⟨fun p => ⟨fun hp => ?_, fun ⟨j, hj⟩ => ?_⟩, fun p j hp => ?_, hi.lam, fun q y hy => hi.surj q y (List.getElem?_eq_some_iff.1 hy).1 hy⟩, hi.cell⟩
    · have hpl : p < es.length := by
        rcases Nat.lt_or_ge p es.length with h3 | h3
        · exact h3
        · rw [List.getElem?_eq_none h3] at hp
          cases hp
      rcases hi.start p hpl hp with h3 | h3
      · cases h3
      · exact h3
    · obtain ⟨-, -, -, x, y, hx, -, hk, -⟩ := hi.lt p j hj
      rw [hx, ← hk]; rfl
    · obtain ⟨h3, h4, -, h5⟩ := hi.lt p j hp
      exact ⟨h3, h4, h5⟩
end Go.Proofs.Yteefopeclfojiaa
