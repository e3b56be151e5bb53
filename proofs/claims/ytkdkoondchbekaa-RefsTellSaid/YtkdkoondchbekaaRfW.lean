/-
  The law's own waking: what the document says of two texts.
-/
import Derived.Test.YtkdkoondchbekaaRfI
namespace Go.Proofs.Ytkdkoondchbekaa
open Go.RowKit Go.Shelf
attribute [local go_sem] Oper.semAt_some
theorem wk_1 : strV (strictN 0 (nums ⟨#[97, 38, 97, 109, 112, 59, 98, 38, 35, 120, 52, 49, 59]⟩)) = .tuple #[.string ⟨#[97, 38, 98, 65]⟩, .int .i64 (-1), .int .i64 0] := by kernel_rfl
theorem wk_2 : strV (strictN 0 (nums ⟨#[97, 38, 110, 98, 115, 112, 59]⟩)) = .tuple #[.string ⟨#[]⟩, .int .i64 1, .int .i64 50] := by kernel_rfl
theorem wk_3 : looseR htmN 5 (nums ⟨#[97, 38, 110, 98, 115, 112, 59, 38]⟩) = ([97, 194, 160, 38], [(7, 6), (6, 12)]) := by kernel_rfl
theorem wk_4 : strOfNums (escN false (nums ⟨#[60, 13]⟩)) = ⟨#[38, 108, 116, 59, 38, 35, 49, 51, 59]⟩ := by kernel_rfl
theorem wk_5 : strOfNums [97, 194, 160, 38] = ⟨#[97, 194, 160, 38]⟩ := by kernel_rfl
theorem law13_wakes (w : World) (m : Int) (hm : w.cell? ⟨0, 0, none⟩ = some (.int .i64 m)) :
    Calls Try.prog 9 #[] w fun e w' => e = .returned (.bool true) ∧ Below w.heap.size w w' := by
  have hgw := cellBlock_lt hm
  have H1 := Lib.hid (fun u => by have h := refs_Strict ⟨#[97, 38, 97, 109, 112, 59, 98, 38, 35, 120, 52, 49, 59]⟩ (by decide) u; rw [wk_1] at h; exact h)
  have H2 := Lib.hid (fun u => by have h := refs_Strict ⟨#[97, 38, 110, 98, 115, 112, 59]⟩ (by decide) u; rw [wk_2] at h; exact h)
  have H3 := Lib.hid (fun u hmu => by have h := refs_Loose ⟨#[97, 38, 110, 98, 115, 112, 59, 38]⟩ 5 (by decide) (by decide) m u hmu; rw [wk_3] at h; dsimp only at h; rw [wk_5] at h; exact h)
  have H4 := Lib.hid (fun u => by have h := refs_Escape ⟨#[60, 13]⟩ false (by decide) u; rw [wk_4] at h; exact h)
  go_enter Try.func9, Try.ntmps9
  go_wp2_with fail
  refine (H1.out _).mono ?_
  rintro e w1 ⟨rfl, hb1⟩
  go_wp2_with fail
  refine (H2.out _).mono ?_
  rintro e w2 ⟨rfl, hb2⟩
  have hb := hb1.trans (hb2.mono hb1.size)
  go_wp2_with fail
  refine (H3.out _ ((hb.cell (p := ⟨0, 0, none⟩) hgw).trans hm)).mono ?_
  rintro e w3 ⟨v, rfl, hrow, h0, hb3⟩
  clear h0
  have hb := hb.trans (hb3.mono hb.size)
  obtain ⟨g, cap, rfl, c0, c1, c2, c3⟩ : ∃ g cap, v = .slice (some ⟨g, 0, none⟩) 2 cap ∧ w3.cell? ⟨g, 0, none⟩ = some (.int .i8 7) ∧ w3.cell? ⟨g, 1, none⟩ = some (.int .i64 6) ∧ w3.cell? ⟨g, 2, none⟩ = some (.int .i8 6) ∧ w3.cell? ⟨g, 3, none⟩ = some (.int .i64 12) := by
    rcases hrow.2 with ⟨_, h⟩ | ⟨g, cap, cur, rfl, _⟩
    · exact absurd h (by decide)
    · exact ⟨g, cap, rfl, hrow.cells (g := g) rfl 0 _ rfl, hrow.cells (g := g) rfl 1 _ rfl, hrow.cells (g := g) rfl 2 _ rfl, hrow.cells (g := g) rfl 3 _ rfl⟩
  clear hrow
  go_wp2_with fail
  refine (H4.out _).mono ?_
  rintro e w4 ⟨rfl, hb4⟩
  go_wp2
  go_ret
  exact ⟨rfl, hb.trans (hb4.mono hb.size)⟩
end Go.Proofs.Ytkdkoondchbekaa
