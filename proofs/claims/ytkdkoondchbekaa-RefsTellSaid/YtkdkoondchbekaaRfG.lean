/-
  What Loose makes of a text's pieces, in plain terms; the reasons' row.
-/
import Derived.Test.YtkdkoondchbekaaRfF
namespace Go.Proofs.Ytkdkoondchbekaa
open Go.RowKit Go.Shelf
attribute [local go_sem] Oper.semAt_some
def outL (H : List Int → Int × Bool) (p : Nat × Bool × List Int) : List Int :=
  if p.2.1 then (if (scaN p.2.2).2 then encN (scaN p.2.2).1 else if (numN p.2.2).2.1 then encN 65533 else if (H p.2.2).2 then encN (H p.2.2).1 else 38 :: (p.2.2 ++ [59])) else p.2.2
def resL (H : List Int → Int × Bool) (a : Nat) (p : Nat × Bool × List Int) : List (Int × Nat) :=
  if p.2.1 then (if (scaN p.2.2).2 then [] else if (numN p.2.2).2.1 then [(4, a + p.1)] else if (H p.2.2).2 then [(7, a + p.1)] else [(6, a + p.1)]) else if p.2.2 = [38] then [(6, a + p.1)] else []
theorem nam_not_num {l : List Int} (h : (namN l).2 = true) : (numN l).2.1 = false := by
  cases h4 : (numN l).2.1 with
  | false => rfl
  | true =>
    exfalso
    unfold namN at h
    (repeat' split at h) <;> first | (rename_i e1; rw [e1] at h4; revert h4; decide) | (revert h; decide)
theorem loose_pr (H : List Int → Int × Bool) (a : Nat) : ∀ (f : Nat) (l : List Int) (b : Nat), l.length ≤ f → looseR H (a + b) l = ((prN b l).flatMap (outL H), (prN b l).flatMap (resL H a))
  | _, [], b, _ => by rw [prN_nil, looseR_nil]; rfl
  | 0, _ :: _, _, h => by simp at h
  | f + 1, c :: t, b, h => by
    simp only [List.length_cons] at h
    by_cases hc : c = 38
    · subst hc
      rw [looseR_ref]
      cases e : endN t with
      | none =>
        rw [prN_amp b t e, List.flatMap_cons, List.flatMap_cons]
        have i := loose_pr H a f t (b + 1) (by omega)
        rw [show a + (b + 1) = a + b + 1 by omega] at i
        show andR [38] [(6, a + b)] (looseR H (a + b + 1) t) = _
        rw [i]
        rfl
      | some n =>
        obtain ⟨h38, _, _, hdr⟩ := endN_take t n e
        have hn := endN_lt t n e
        have i := loose_pr H a f (t.drop (n + 1)) (b + n + 2) (by rw [List.length_drop]; omega)
        rw [show a + (b + n + 2) = a + b + n + 2 by omega] at i
        rw [prN_ref b t n e, List.flatMap_cons, List.flatMap_cons]
        dsimp only
        obtain ⟨T, hT⟩ : ∃ T, t.take n = T := ⟨_, rfl⟩
        have hTl : T.length = n := by rw [← hT, List.length_take]; omega
        rw [hT] at h38 ⊢
        have hsc : (scaN T).2 = ((numN T).2.2 || (namN T).2) := by unfold scaN; split <;> simp [*]
        by_cases h1 : (numN T).2.2 = true
        · have hs : scaN T = ((numN T).1, true) := by unfold scaN; rw [if_pos h1]
          have hl : looN H T = ((numN T).1, -1, true) := by unfold looN; rw [if_pos h1]
          rw [hl, if_pos rfl, i]
          simp [andR, outL, resL, hs]
        · have hs : scaN T = namN T := by unfold scaN; rw [if_neg h1]
          by_cases h2 : (numN T).2.1 = true
          · have h3 : (namN T).2 = false := by
              cases h3 : (namN T).2 with
              | false => rfl
              | true => rw [nam_not_num h3] at h2; cases h2
            have hl : looN H T = (65533, 4, true) := by unfold looN; rw [if_neg h1, if_pos h2]
            rw [hl, if_pos rfl, i]
            simp [andR, outL, resL, hs, h3, h2]
          · have h2' : (numN T).2.1 = false := by simpa using h2
            by_cases h3 : (namN T).2 = true
            · have hl : looN H T = ((namN T).1, -1, true) := by unfold looN; rw [if_neg h1, if_neg h2, if_pos h3]
              rw [hl, if_pos rfl, i]
              simp [andR, outL, resL, hs, h3]
            · have h3' : (namN T).2 = false := by simpa using h3
              have hl : looN H T = ((H T).1, 7, (H T).2) := by unfold looN; rw [if_neg h1, if_neg h2, if_neg h3]
              rw [hl]
              dsimp only
              cases h4 : (H T).2 with
              | true =>
                rw [if_pos rfl, i]
                simp [andR, outL, resL, hs, h3', h2', h4]
              | false =>
                rw [if_neg (by decide)]
                have e1 : t = (T ++ [59]) ++ t.drop (n + 1) := by
                  rw [← hT, List.append_assoc, List.singleton_append, ← hdr, List.take_append_drop]
                conv => lhs; rw [e1]
                have h5 : 38 ∉ T ++ [59] := by rw [List.mem_append, not_or]; exact ⟨h38, by decide⟩
                rw [looseR_plain H (T ++ [59]) (a + b + 1) _ h5]
                have e2 : a + b + 1 + (T ++ [59]).length = a + b + n + 2 := by rw [List.length_append, hTl]; simp; omega
                rw [e2, i]
                simp [andR, outL, resL, hs, h3', h2', h4]
    · have h1 : 1 ≤ (runN (c :: t)).length := by rw [runN_pos t hc]; simp
      have hne : runN (c :: t) ≠ [38] := by
        intro e
        have := runN_38 (c :: t)
        rw [e] at this
        exact this (by simp)
      have i := loose_pr H a f ((c :: t).drop (runN (c :: t)).length) (b + (runN (c :: t)).length) (by rw [List.length_drop, List.length_cons]; omega)
      rw [prN_run b t hc, List.flatMap_cons, List.flatMap_cons]
      conv => lhs; rw [runN_drop (c :: t)]
      rw [looseR_plain H _ _ _ (runN_38 _), Nat.add_assoc, i]
      simp [andR, outL, resL, hne]
/-- the reasons as cells. -/
def reaC (l : List (Int × Nat)) : List Value := l.flatMap fun r => [Value.int .i8 r.1, Value.int .i64 (r.2 : Nat)]
theorem reaC_app (a b : List (Int × Nat)) : reaC (a ++ b) = reaC a ++ reaC b := by simp [reaC]
theorem outL_one (H : List Int → Int × Bool) (x : Nat × Bool × List Int) : (outL H x).length ≤ 4 + x.2.2.length := by
  have e1 := encN_len (scaN x.2.2).1
  have e2 := encN_len 65533
  have e3 := encN_len (H x.2.2).1
  unfold outL
  (repeat' split) <;> first | omega | (simp; done) | (simp; omega)
theorem resL_one (H : List Int → Int × Bool) (a : Nat) (x : Nat × Bool × List Int) : (resL H a x).length ≤ 1 := by unfold resL; (repeat' split) <;> simp
theorem outL_len (H : List Int → Int × Bool) {s : ByteArray} (l : List (PcOf s)) : ((rawL l).flatMap (outL H)).length ≤ l.length * (4 + s.size) := by
  unfold rawL
  induction l with
  | nil => simp
  | cons x t ih =>
    have h1 := outL_one H x.1
    have h2 := (pc_facts x).2.2
    rw [List.map_cons, List.flatMap_cons, List.length_append, List.length_cons, Nat.succ_mul]
    omega
theorem resL_len (H : List Int → Int × Bool) (a : Nat) {s : ByteArray} (l : List (PcOf s)) : ((rawL l).flatMap (resL H a)).length ≤ l.length := by
  unfold rawL
  induction l with
  | nil => simp
  | cons x t ih =>
    have h1 := resL_one H a x.1
    rw [List.map_cons, List.flatMap_cons, List.length_append, List.length_cons]
    omega
theorem outL_isBs (H : List Int → Int × Bool) : ∀ (l : List (Nat × Bool × List Int)), (∀ p ∈ l, isBs p.2.2) → isBs (l.flatMap (outL H))
  | [], _ => fun x hx => by simp at hx
  | p :: r, h => by
    rw [List.flatMap_cons]
    intro x hx
    rw [List.mem_append] at hx
    rcases hx with hx | hx
    · have hp := h p (List.mem_cons_self ..)
      unfold outL at hx
      (repeat' split at hx) <;> first | exact isBs_encN _ x hx | exact hp x hx | skip
      rw [List.mem_cons, List.mem_append, List.mem_singleton] at hx
      rcases hx with rfl | hx | rfl
      · decide
      · exact hp x hx
      · decide
    · exact outL_isBs H r (fun q hq => h q (List.mem_cons_of_mem _ hq)) x hx
theorem infoRea : (Try.prog.info? 41).map (fun i => (i.zero, i.size, i.bytes)) = some (some (.agg #[.int .i8 0, .int .i64 0]), 2, 16) := by kernel_rfl
theorem app_rea (wr : World) (base : Nat) (v : Value) (xs : List (Int × Nat)) (hown : wr.ownsRow base 41 2 v xs.length (reaC xs)) (x : Int × Nat) (hn : xs.length < 1000000000) (hbase : base ≤ wr.heap.size) :
    ∃ v' w', (Builtin.append_ #[26, 26] 26 #[v, .slice (some ⟨wr.heap.size, 0, none⟩) 1 1]).run Try.prog (wr.alloc (.cells #[.int .i8 x.1, .int .i64 (x.2 : Nat)] 41)) = .ok v' w' ∧
      w'.ownsRow base 41 2 v' (xs ++ [x]).length (reaC (xs ++ [x])) ∧ (wr.alloc (.cells #[.int .i8 x.1, .int .i64 (x.2 : Nat)] 41)).grownBy w' v.ownBlock := by
  obtain ⟨i0, hi, hz0, hz1, hz2⟩ := info_parts infoRea
  obtain ⟨v', w', h1, h2, h3, h4⟩ := run_append_own (P := Try.prog) (wr.alloc (.cells #[.int .i8 x.1, .int .i64 (x.2 : Nat)] 41)) base 26 26 41 i0 (.agg #[.int .i8 0, .int .i64 0]) 2 16 Try.underlying26 hi hz0 hz1 hz2 rfl (by decide) v xs.length _ (hown.alloc _) ⟨wr.heap.size, 0, none⟩ 1 1 [.int .i8 x.1, .int .i64 (x.2 : Nat)] rfl
    (fun j u hj => by match j, hj with | 0, hj => simp at hj; subst hj; simp [Addr.add, World.cell?_alloc_mark] | 1, hj => simp at hj; subst hj; simp [Addr.add, World.cell?_alloc_mark]) (fun u hu => by simp at hu; rcases hu with rfl | rfl <;> rfl) (by unfold maxLen; omega) (by omega) (by simp; omega)
  refine ⟨v', w', h1, ?_, h3⟩
  rw [reaC_app, List.length_append]
  exact h2
end Go.Proofs.Ytkdkoondchbekaa
