/-
  Layer 16: where an element's end lies (plain); the walk of events.Text.
-/
import Derived.Test.YteefopeclfojiaaEvD
namespace Go.Proofs.Yteefopeclfojiaa
open Go.RowKit
/-- what is open, and what has ended, ahead of i. -/
def GInv (es : List Evt) (i : Nat) (g : Gr) : Prop := (∀ t ∈ g.op, ∃ p : Nat, t = (p : Int) ∧ p < i) ∧
  ∀ p : Nat, p < i → (es[p]?).map Evt.k = some 0 → (p : Int) ∈ g.op ∨ ∃ j : Nat, aGet g.ends p = some (.int .i64 j) ∧ p < j ∧ j < i
theorem mem_dropLast {l : List Int} {t p : Int} (hl : l.getLast? = some t) (hp : p ∈ l) : p ∈ l.dropLast ∨ p = t := by
  obtain ⟨q, rfl⟩ := List.getLast?_eq_some_iff.1 hl
  simp at hp ⊢
  exact hp
theorem gstep_inv {es : List Evt} {i : Nat} {x : Evt} {g g' : Gr} (hx : es[i]? = some x) (h : gstep es i x g = some g') (hi : GInv es i g) : GInv es (i + 1) g' := by
  obtain ⟨h1, h2⟩ := hi
  unfold gstep at h
  split at h
  · cases h
  · unfold gbody at h
    split at h
    · cases h
    · split at h
      · rename_i hk
        cases h
        refine ⟨fun t ht => ?_, fun p hp hpk => ?_⟩
        · rcases List.mem_append.1 ht with ht | ht
          · obtain ⟨p, e, hp⟩ := h1 t ht
            exact ⟨p, e, by omega⟩
          · exact ⟨i, by simpa using ht, by omega⟩
        · by_cases e : p = i
          · exact .inl (by subst e; simp)
          · rcases h2 p (by omega) hpk with h3 | ⟨j, h3, h4, h5⟩
            · exact .inl (List.mem_append_left _ h3)
            · exact .inr ⟨j, h3, h4, by omega⟩
      · rename_i hk
        have keep : GInv es (i + 1) g := ⟨fun t ht => by
            obtain ⟨p, e, hp⟩ := h1 t ht
            exact ⟨p, e, by omega⟩, fun p hp hpk => by
            by_cases e : p = i
            · subst e
              rw [hx] at hpk
              exact absurd (by simpa using hpk) hk
            · rcases h2 p (by omega) hpk with h3 | ⟨j, h3, h4, h5⟩
              · exact .inl h3
              · exact .inr ⟨j, h3, h4, by omega⟩⟩
        split at h
        · split at h
          · cases h
          · cases h
            exact keep
        · split at h
          · cases h
          · rename_i t ht
            split at h
            · cases h
              refine ⟨fun u hu => keep.1 u (List.dropLast_subset _ hu), fun p hp hpk => ?_⟩
              have hpi : p ≠ i := fun e => by
                subst e
                rw [hx] at hpk
                exact hk (by simpa using hpk)
              by_cases e : (p : Int) = t
              · refine .inr ⟨i, ?_, by omega, by omega⟩
                show aGet (aPut g.ends t (.int .i64 i)) p = _
                rw [aGet_put, if_pos e]
              · rcases keep.2 p hp hpk with h3 | ⟨j, h3, h4, h5⟩
                · rcases mem_dropLast ht h3 with h6 | h6
                  · exact .inl h6
                  · exact absurd h6 e
                · refine .inr ⟨j, ?_, h4, h5⟩
                  show aGet (aPut g.ends t (.int .i64 i)) p = _
                  rw [aGet_put, if_neg e]
                  exact h3
            · cases h
theorem grun_inv {es : List Evt} : ∀ (l : List Evt) (i : Nat) (g g' : Gr), es.drop i = l → grun es i l g = some g' → GInv es i g → GInv es (i + l.length) g'
  | [], i, g, g', _, h, hi => by cases h; exact hi
  | x :: r, i, g, g', hd, h, hi => by
    rw [grun] at h
    obtain ⟨g1, h1, h2⟩ := Option.bind_eq_some_iff.1 h
    have hx : es[i]? = some x := by
      have := List.getElem?_drop (xs := es) (i := i) (j := 0)
      rw [hd] at this
      simpa using this.symm
    have hd1 : es.drop (i + 1) = r := by rw [← List.drop_drop, hd]; rfl
    have := grun_inv r (i + 1) g1 g' hd1 h2 (gstep_inv hx h1 hi)
    rw [List.length_cons]
    rw [show i + (r.length + 1) = i + 1 + r.length by omega]
    exact this
/-- an element's end lies behind its place. -/
theorem growP_end {es : List Evt} {g : Gr} (h : growP es = some g) (p : Nat) (hp : (es[p]?).map Evt.k = some 0) : ∃ j : Nat, aGet g.ends p = some (.int .i64 j) ∧ p < j ∧ j < es.length := by
  unfold growP at h
  obtain ⟨g1, h1, h2⟩ := Option.bind_eq_some_iff.1 h
  have hi := grun_inv es 0 ⟨[], [], 0⟩ g1 rfl h1 ⟨fun t ht => (by cases ht), fun p hp => by omega⟩
  unfold gfin at h2
  split at h2
  · cases h2
  · rename_i hh
    cases h2
    have hop : g.op = [] := by
      by_cases e : g.op = []
      · exact e
      · exact absurd (.inr e) hh
    have hpl : p < es.length := by
      rcases Nat.lt_or_ge p es.length with h3 | h3
      · exact h3
      · rw [List.getElem?_eq_none h3] at hp
        cases hp
    rcases hi.2 p (by omega) hp with h3 | ⟨j, h3, h4, h5⟩
    · rw [hop] at h3
      cases h3
    · exact ⟨j, h3, h4, by omega⟩
theorem atP_end {es : List Evt} {i : Int} {g : Gr} (h : atP es i = some g) : ∃ p j : Nat, i = (p : Int) ∧ endV g i = .int .i64 j ∧ aGet g.ends p = some (.int .i64 j) ∧ p < j ∧ j < es.length := by
  unfold atP at h
  split at h
  · rename_i hc
    obtain ⟨h0, h1, h2⟩ := hc
    obtain ⟨p, rfl⟩ : ∃ p : Nat, i = (p : Int) := ⟨i.toNat, by omega⟩
    rw [Int.toNat_natCast] at h2
    obtain ⟨j, h3, h4, h5⟩ := growP_end h p h2
    exact ⟨p, j, rfl, by unfold endV; rw [h3]; rfl, h3, h4, h5⟩
  · cases h
theorem AtsR.len {B : Nat} {w : World} : ∀ {es : List Evt} {avs : List Value}, AtsR B w es avs → avs.length = es.length
  | [], [], _ => rfl
  | _ :: es, _ :: as_, h => by simp [AtsR.len h.2]
theorem AtsR.drop {B : Nat} {w : World} : ∀ (p : Nat) {es : List Evt} {avs : List Value}, AtsR B w es avs → AtsR B w (es.drop p) (avs.drop p)
  | 0, _, _, h => h
  | _ + 1, [], [], _ => trivial
  | p + 1, _ :: _, _ :: _, h => AtsR.drop p h.2
theorem AtsR.take {B : Nat} {w : World} : ∀ (p : Nat) {es : List Evt} {avs : List Value}, AtsR B w es avs → AtsR B w (es.take p) (avs.take p)
  | 0, _, _, _ => trivial
  | _ + 1, [], [], _ => trivial
  | p + 1, _ :: _, _ :: _, h => ⟨h.1, AtsR.take p h.2⟩
theorem evsC_drop : ∀ (p : Nat) (es : List Evt) (avs : List Value), avs.length = es.length → evsC (es.drop p) (avs.drop p) = (evsC es avs).drop (p * 5)
  | 0, _, _, _ => by simp
  | p + 1, [], [], _ => by simp [evsC]
  | p + 1, e :: es, a :: as_, h => by
    rw [List.drop_succ_cons, List.drop_succ_cons, evsC_drop p es as_ (by simpa using h), evsC, show (p + 1) * 5 = (evC e a).length + p * 5 by show (p + 1) * 5 = 5 + p * 5; omega, List.drop_append]
    simp
theorem evsC_take : ∀ (p : Nat) (es : List Evt) (avs : List Value) (q : Nat) (u : Value), (evsC (es.take p) (avs.take p))[q]? = some u → (evsC es avs)[q]? = some u
  | 0, _, _, _, _, h => by simp [evsC] at h
  | p + 1, [], _, _, _, h => by simp [evsC] at h
  | p + 1, _ :: _, [], _, _, h => by simp [evsC] at h
  | p + 1, e :: es, a :: as_, q, u, h => by
    rw [List.take_succ_cons, List.take_succ_cons, evsC] at h
    rw [evsC]
    rcases Nat.lt_or_ge q (evC e a).length with hq | hq
    · rw [List.getElem?_append_left hq] at h ⊢
      exact h
    · rw [List.getElem?_append_right hq] at h ⊢
      exact evsC_take p es as_ _ u h
/-- a part of events reads, too. -/
theorem EvsR.sub {B : Nat} {w : World} {b off n cap : Nat} {es : List Evt} (h : EvsR B w (.slice (some ⟨b, off, none⟩) n cap) es) (p m c : Nat) (hm : p + m ≤ es.length) : EvsR B w (.slice (some ⟨b, off + p * 5, none⟩) m c) ((es.drop p).take m) := by
  obtain ⟨avs, ⟨a, cap', hv, hc⟩, ha⟩ := h
  cases hv
  have hl : ((es.drop p).take m).length = m := by rw [List.length_take, List.length_drop]; omega
  refine ⟨(avs.drop p).take m, ⟨_, c, by rw [hl], fun q u hq => ?_⟩, (ha.drop p).take m⟩
  have h1 := evsC_take m _ _ q u hq
  rw [evsC_drop p es avs ha.len, List.getElem?_drop] at h1
  obtain ⟨b', off', hbb, hb', h2⟩ := hc _ u h1
  cases hbb
  exact ⟨b, off + p * 5, rfl, hb', by rw [Nat.add_assoc]; exact h2⟩
end Go.Proofs.Yteefopeclfojiaa
