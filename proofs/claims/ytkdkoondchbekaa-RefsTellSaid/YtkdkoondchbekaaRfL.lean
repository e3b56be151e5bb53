/-
  The walks of layer 13's statements.
-/
import Derived.Test.YtkdkoondchbekaaRfW
namespace Go.Proofs.Ytkdkoondchbekaa
open Go.RowKit Go.Shelf
attribute [local go_sem] Oper.semAt_some
/-- the library's variable holds some number. -/
def MaxAt (w : World) (m : Int) : Prop := w.cell? ⟨0, 0, none⟩ = some (.int .i64 m)
theorem MaxAt.below {w w' : World} {m : Int} (hm : MaxAt w m) (hb : Below w.heap.size w w') : MaxAt w' m :=
  (hb.cell (p := ⟨0, 0, none⟩) (cellBlock_lt hm)).trans hm
theorem bt {a b c : World} (h : Below a.heap.size a b) (k : Below b.heap.size b c) : Below a.heap.size a c := h.trans (k.mono h.size)
theorem strP_inr : ∀ (l : List (Nat × Bool × List Int)) (x : List Int), strP l = .inr x → x = l.flatMap outS
  | [], x, h => by cases h; rfl
  | p :: r, x, h => by
    rw [strP] at h
    split at h
    · cases e : strP r with
      | inl k => rw [e] at h; cases h
      | inr y =>
        rw [e] at h
        have : outS p ++ y = x := by injection h
        rw [← this, strP_inr r y e, List.flatMap_cons]
    · cases h
theorem strict_len {l x : List Int} (h : strictN 0 l = .inr x) : x.length ≤ 4 * l.length := by
  rw [← strP_pr _ l 0 (Nat.le_refl _)] at h
  rw [strP_inr _ _ h]
  exact (prN_bound _ l 0 (Nat.le_refl _)).2.1
theorem strict_isBs {l x : List Int} (hb : isBs l) (h : strictN 0 l = .inr x) : isBs x := by
  rw [← strP_pr _ l 0 (Nat.le_refl _)] at h
  rw [strP_inr _ _ h]
  exact outS_isBs _ fun p hp => (prN_isBs _ _ 0 (Nat.le_refl _) hb p hp).1
set_option maxHeartbeats 1000000 in
theorem law_RefsNames (s : ByteArray) (w : World) (m : Int) (hm : MaxAt w m) :
    Calls Try.prog 4 #[.string s] w fun e w' => e = .returned (.bool true) ∧ Below w.heap.size w w' := by
  have HW := Lib.hid (fun (u : World) (h : MaxAt u m) => law13_wakes u m h)
  have HM := Lib.hid hm
  clear hm
  have hB := Below.refl w.heap.size w
  by_cases hbig : 300 < s.size
  · go_enter Try.func4, Try.ntmps4
    go_wp2_with (go_at_call 9; refine (HW.out _ (HM.out.below hB)).mono ?_; rintro e w' ⟨rfl, hb1⟩; replace hB := bt hB hb1)
    go_ret
    exact ⟨rfl, hB⟩
  · obtain ⟨n1, n2, hn⟩ : ∃ a b, namN (nums s) = (a, b) := ⟨_, _, rfl⟩
    obtain ⟨h1, h2, hh⟩ : ∃ a b, htmN (nums s) = (a, b) := ⟨_, _, rfl⟩
    obtain ⟨r1, r2, r3, hr⟩ : ∃ a b c, numN (nums s) = (a, b, c) := ⟨_, _, _, rfl⟩
    have A1 := Lib.hid (fun u => by have h := refs_Named s u; rw [hn] at h; exact h)
    have A2 := Lib.hid (fun u => by have h := ref13_Named s u; rw [hn] at h; exact h)
    have A3 := Lib.hid (fun u hmu => by have h := refs_Html s m u (by omega) hmu; rw [hh] at h; exact h)
    have A4 := Lib.hid (fun u => by have h := ref13_Html s u; rw [hh] at h; exact h)
    have A5 := Lib.hid (fun u => by have h := refs_Number s u (by omega); rw [hr] at h; exact h)
    have A6 := Lib.hid (fun u => by have h := ref13_Number s u (by omega); rw [hr] at h; exact h)
    clear hn hh hr
    unfold numV at A5 A6
    go_enter Try.func4, Try.ntmps4
    go_wp2_with first
      | (go_at_call 17; refine (A1.out _).mono ?_; rintro e w' ⟨rfl, rfl⟩)
      | (go_at_call 18; refine (A2.out _).mono ?_; rintro e w' ⟨rfl, rfl⟩)
      | (go_at_call 19; refine (A3.out _ (HM.out.below hB)).mono ?_; rintro e w' ⟨rfl, hb1⟩; replace hB := bt hB hb1)
      | (go_at_call 20; refine (A4.out _).mono ?_; rintro e w' ⟨rfl, hb1⟩; replace hB := bt hB hb1)
      | (go_at_call 21; refine (A5.out _).mono ?_; rintro e w' ⟨rfl, hb1⟩; replace hB := bt hB hb1)
      | (go_at_call 22; refine (A6.out _).mono ?_; rintro e w' ⟨rfl, rfl⟩)
      | (go_at_call 9; refine (HW.out _ (HM.out.below hB)).mono ?_; rintro e w' ⟨rfl, hb1⟩; replace hB := bt hB hb1)
    go_ret
    exact ⟨rfl, hB⟩
theorem rea_head {u : World} {base k : Nat} {v : Value} {r : Int} {rs : List (Int × Nat)} (h : u.ownsRow base 41 2 v ((r, k) :: rs).length (reaC ((r, k) :: rs))) :
    ∃ g cap, v = .slice (some ⟨g, 0, none⟩) (rs.length + 1) cap ∧ u.cell? ⟨g, 1, none⟩ = some (.int .i64 k) := by
  rcases h.2 with ⟨_, h0⟩ | ⟨g, cap, cur, rfl, _⟩
  · simp at h0
  · exact ⟨g, cap, rfl, h.cells (g := g) rfl 1 _ rfl⟩
set_option maxHeartbeats 1000000 in
theorem law_RefsBoth (s : ByteArray) (w : World) (m : Int) (hm : MaxAt w m) :
    Calls Try.prog 6 #[.string s] w fun e w' => e = .returned (.bool true) ∧ Below w.heap.size w w' := by
  have HW := Lib.hid (fun (u : World) (h : MaxAt u m) => law13_wakes u m h)
  have HM := Lib.hid hm
  clear hm
  have hB := Below.refl w.heap.size w
  by_cases hbig : 2000 < s.size
  · go_enter Try.func6, Try.ntmps6
    go_wp2_with (go_at_call 9; refine (HW.out _ (HM.out.below hB)).mono ?_; rintro e w' ⟨rfl, hb1⟩; replace hB := bt hB hb1)
    go_ret
    exact ⟨rfl, hB⟩
  · cases hs : strictN 0 (nums s) with
    | inr x =>
      have hl := both_ok htmN _ (nums s) 0 0 x (Nat.le_refl _) hs
      have A1 := Lib.hid (fun u => by have h := refs_Strict s (by omega) u; rw [hs] at h; exact h)
      have A2 := Lib.hid (fun u hmu => by have h := refs_Loose s 0 (by omega) (by omega) m u hmu; rw [hl] at h; exact h)
      clear hs hl
      unfold strV at A1
      dsimp only at A1 A2
      go_enter Try.func6, Try.ntmps6
      go_wp2_with first
        | (go_at_call 10; refine (A1.out _).mono ?_; rintro e w' ⟨rfl, hb1⟩; replace hB := bt hB hb1)
        | (go_at_call 12; refine (A2.out _ (HM.out.below hB)).mono ?_; rintro e w' ⟨v, rfl, hrow, hz, hb1⟩; obtain rfl := hz trivial; clear hrow; replace hB := bt hB hb1)
        | (go_at_call 9; refine (HW.out _ (HM.out.below hB)).mono ?_; rintro e w' ⟨rfl, hb1⟩; replace hB := bt hB hb1)
      go_ret
      exact ⟨rfl, hB⟩
    | inl k =>
      obtain ⟨_, h38, r, hhd⟩ := both_bad htmN _ (nums s) 0 k (Nat.le_refl _) hs
      have A1 := Lib.hid (fun u => by have h := refs_Strict s (by omega) u; rw [hs] at h; exact h)
      obtain ⟨x, rs, hl⟩ : ∃ x rs, looseR htmN 0 (nums s) = (x, (r, k) :: rs) := by
        refine ⟨(looseR htmN 0 (nums s)).1, (looseR htmN 0 (nums s)).2.tail, ?_⟩
        cases e : (looseR htmN 0 (nums s)).2 with
        | nil => rw [e] at hhd; cases hhd
        | cons p t =>
          rw [e] at hhd
          have : p = (r, k) := by simpa using hhd
          rw [this] at e
          rw [← Prod.eta (looseR htmN 0 (nums s)), e]; rfl
      have A2 := Lib.hid (fun u hmu => by have h := refs_Loose s 0 (by omega) (by omega) m u hmu; rw [hl] at h; exact h)
      rw [Nat.sub_zero] at h38
      have hk : k < s.size := by
        have := (List.getElem?_eq_some_iff.1 h38).1
        rwa [nums_length] at this
      have hsk : (s[k].toNat : Int) = 38 := by
        have := (List.getElem?_eq_some_iff.1 h38).2
        rwa [nums_at s k hk] at this
      clear hs hl hhd h38
      unfold strV at A1
      dsimp only at A1 A2
      go_enter Try.func6, Try.ntmps6
      go_wp2_with first
        | (go_at_call 10; refine (A1.out _).mono ?_; rintro e w' ⟨rfl, hb1⟩; replace hB := bt hB hb1)
        | (go_at_call 12; refine (A2.out _ (HM.out.below hB)).mono ?_; rintro e w' ⟨v, rfl, hrow, hz, hb1⟩; clear hz; obtain ⟨g, cap, rfl, c1⟩ := rea_head hrow; clear hrow; replace hB := bt hB hb1)
        | (go_at_call 9; refine (HW.out _ (HM.out.below hB)).mono ?_; rintro e w' ⟨rfl, hb1⟩; replace hB := bt hB hb1)
      go_ret
      exact ⟨rfl, hB⟩
end Go.Proofs.Ytkdkoondchbekaa
