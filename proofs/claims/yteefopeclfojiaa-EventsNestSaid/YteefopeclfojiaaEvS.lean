/-
  A stack of ints of the call's own: its row, or a part of one that is cut to its length ('s[:n:n]').
-/
import Derived.Test.YteefopeclfojiaaSl
import Derived.Test.YteefopeclfojiaaOp
import Derived.ArgAppend
namespace Go.Proofs.Yteefopeclfojiaa
open Go.RowKit
/-- a stack of ints in blocks from base on. -/
def Stk (base : Nat) (w : World) (v : Value) (l : List Int) : Prop :=
  w.ownsRow base 3 1 v l.length (l.map (Value.int .i64)) ∨
  ∃ b, v = .slice (some ⟨b, 0, none⟩) l.length l.length ∧ base ≤ b ∧ b < w.heap.size ∧ l.length ≤ maxLen ∧ ∀ (i : Nat) x, l[i]? = some x → w.cell? ⟨b, i, none⟩ = some (.int .i64 x)
theorem Stk.nil (base : Nat) (w : World) : Stk base w (.slice none 0 0) [] := .inl ⟨rfl, .inl ⟨rfl, rfl⟩⟩
theorem Stk.form {base : Nat} {w : World} {v : Value} {l : List Int} (h : Stk base w v l) : ∃ a cap, v = .slice a l.length cap ∧ (∀ b, a = some b → base ≤ b.block) := by
  rcases h with h | ⟨b, rfl, hb, _⟩
  · rcases h.2 with ⟨rfl, h0⟩ | ⟨g, cap, cur, rfl, hb, _⟩
    · rw [h0]; exact ⟨none, 0, rfl, fun b h => by cases h⟩
    · exact ⟨_, cap, rfl, fun b h => by cases h; exact hb⟩
  · exact ⟨_, _, rfl, fun b h => by cases h; exact hb⟩
theorem Stk.read {base : Nat} {w : World} {v : Value} {l : List Int} (h : Stk base w v l) (i : Nat) (x : Int) (hx : l[i]? = some x) :
    ∃ b cap, v = .slice (some ⟨b, 0, none⟩) l.length cap ∧ base ≤ b ∧ w.cell? ⟨b, i, none⟩ = some (.int .i64 x) ∧ l.length ≤ cap := by
  rcases h with h | ⟨b, rfl, hb, _, _, hc⟩
  · have h0 := h
    rcases h.2 with ⟨rfl, h9⟩ | ⟨g, cap, cur, rfl, hb, h1, h2, h3, h4, h5⟩
    · rw [List.eq_nil_of_length_eq_zero h9] at hx; cases hx
    · refine ⟨g, cap, rfl, hb, ?_, h2⟩
      have := h0.cells (g := g) rfl i (.int .i64 x) (by rw [List.getElem?_map, hx]; rfl)
      rwa [addr0, Nat.zero_add] at this
  · exact ⟨b, _, rfl, hb, hc i x hx, Nat.le_refl _⟩
theorem Stk.lt {base : Nat} {w : World} {l : List Int} {b cap n : Nat} (h : Stk base w (.slice (some ⟨b, 0, none⟩) n cap) l) : b < w.heap.size := by
  rcases h with h | ⟨b', e, _, hl, _⟩
  · rcases h.2 with ⟨e, _⟩ | ⟨g, cap, cur, e, _, h1, _⟩
    · cases e
    · cases e
      exact (Array.getElem?_eq_some_iff.1 h1).1
  · cases e; exact hl
theorem Stk.below {base : Nat} {w w' : World} {v : Value} {l : List Int} (h : Stk base w v l) {C : Nat} (hb : Below C w w') (hC : w.heap.size ≤ C) : Stk base w' v l := by
  rcases h with h | ⟨b, rfl, h1, h2, h3, h4⟩
  · exact .inl (own_below h hb hC)
  · exact .inr ⟨b, rfl, h1, Nat.lt_of_lt_of_le h2 hb.size, h3, fun i x hx => (hb.cell (p := ⟨b, i, none⟩) (by show b < C; omega)).trans (h4 i x hx)⟩
theorem cell_of_grown {w w' : World} {row : Option Nat} (hg : w.grownBy w' row) {b : Nat} (hb : b < w.heap.size) (hne : some b ≠ row) (i : Nat) : w'.cell? ⟨b, i, none⟩ = w.cell? ⟨b, i, none⟩ := by
  simp only [World.cell?, hg.block b hb hne]
theorem Stk.kept {base : Nat} {w w' : World} {v : Value} {l : List Int} (h : Stk base w v l) {q : Nat} (hg : w.grownBy w' (some q)) (hq : q < base) : Stk base w' v l := by
  rcases h with h | ⟨b, rfl, h1, h2, h3, h4⟩
  · refine .inl (h.kept hg ?_)
    cases hv : v.ownBlock with
    | none => exact .inl rfl
    | some k =>
      refine .inr fun e => ?_
      injection e with e
      have := (h.lt k hv).1
      omega
  · exact .inr ⟨b, rfl, h1, Nat.lt_of_lt_of_le h2 hg.size, h3, fun i x hx => (cell_of_grown hg h2 (by intro e; injection e with e; omega) i).trans (h4 i x hx)⟩
/-- the last one is cut off: 's[:n:n]'. -/
theorem Stk.cut {base : Nat} {w : World} {l : List Int} {x : Int} {b cap : Nat} (h : Stk base w (.slice (some ⟨b, 0, none⟩) (l.length + 1) cap) (l ++ [x])) (hl : l.length ≤ maxLen) : Stk base w (.slice (some ⟨b, 0, none⟩) l.length l.length) l := by
  have hb := h.lt
  refine .inr ⟨b, rfl, ?_, hb, hl, fun i y hy => ?_⟩
  · obtain ⟨a, c, e, hf⟩ := h.form
    simp only [Value.slice.injEq] at e
    exact hf _ e.1.symm
  · have hi : i < l.length := (List.getElem?_eq_some_iff.1 hy).1
    obtain ⟨b', c', e, _, hc, _⟩ := h.read i y (by rw [List.getElem?_append_left hi]; exact hy)
    simp only [Value.slice.injEq, Option.some.injEq, Addr.mk.injEq] at e
    rw [e.1.1]
    exact hc
/-- one more is put upon it. -/
theorem Stk.push {base : Nat} {wr : World} {v : Value} {l : List Int} (h : Stk base wr v l) (x : Int) (hn : l.length < 1099511627776) (hbase : base ≤ wr.heap.size) :
    ∃ v' w', (Builtin.append_ #[31, 31] 31 #[v, .slice (some ⟨wr.heap.size, 0, none⟩) 1 1]).run Try.prog (wr.alloc (.cells #[.int .i64 x] 3)) = .ok v' w' ∧
      Stk base w' v' (l ++ [x]) ∧ Below base wr w' := by
  rcases h with h | ⟨b, rfl, h1, h2, h3, h4⟩
  · obtain ⟨v', w', g1, g2, g3, _⟩ := app_int wr base v l.length l h x hn hbase
    exact ⟨v', w', g1, .inl (by rw [List.length_append]; exact g2), g3⟩
  · obtain ⟨i0, hi, hz0, hz1, hz2⟩ := info_parts infoInt
    obtain ⟨v', w', g1, g2, g3⟩ := run_append_arg_grows (P := Try.prog) (w := wr.alloc (.cells #[.int .i64 x] 3)) 31 31 3 i0 (.int .i64 0) 1 8 Try.underlying31 hi hz0 hz1 hz2 rfl (by decide)
      ⟨b, 0, none⟩ l.length l.length (l.map (Value.int .i64)) (by simp) (fun j u hj => by
        rw [List.getElem?_map] at hj
        cases hx : l[j]? with
        | none => rw [hx] at hj; cases hj
        | some y =>
          rw [hx] at hj
          cases hj
          rw [show (⟨b, 0, none⟩ : Addr).add j = ⟨b, j, none⟩ by unfold Addr.add; split <;> simp_all]
          rw [World.cell?_alloc_past _ _ _ h2]
          exact h4 j y hx)
      ⟨wr.heap.size, 0, none⟩ 1 1 [.int .i64 x] rfl (fun j u hj => by match j, hj with | 0, hj => simp at hj; subst hj; simp [Addr.add, World.cell?_alloc_mark]) (by omega) (by unfold maxLen; omega) (by omega)
    refine ⟨v', w', g1, .inl ?_, ?_⟩
    · rw [List.length_append, List.map_append]
      rcases g2.2 with hh | ⟨g, cap, cur, e, hg, rest⟩
      · exact ⟨g2.1, .inl hh⟩
      · refine ⟨g2.1, .inr ⟨g, cap, cur, e, ?_, rest⟩⟩
        have : wr.heap.size ≤ (wr.alloc (.cells #[.int .i64 x] 3)).heap.size := by simp
        omega
    · exact ((Below.refl base wr).alloc hbase _).grown g3 (by simp; omega) (fun k e => by cases e)
end Go.Proofs.Yteefopeclfojiaa
