/-
  Layer 16: the walk of wakes.
-/
import Derived.Test.YteefopeclfojiaaEvQ
import Derived.Test.YteefopeclfojiaaEvJ
namespace Go.Proofs.Yteefopeclfojiaa
open Go.RowKit
/-- the events of wakes. -/
def wkE : List Evt := [⟨0, (⟨#[]⟩, ⟨#[97]⟩), [], ⟨#[]⟩⟩, ⟨2, (⟨#[]⟩, ⟨#[]⟩), [], ⟨#[120]⟩⟩, ⟨0, (⟨#[]⟩, ⟨#[98]⟩), [], ⟨#[]⟩⟩, ⟨2, (⟨#[]⟩, ⟨#[]⟩), [], ⟨#[121]⟩⟩, ⟨1, (⟨#[]⟩, ⟨#[98]⟩), [], ⟨#[]⟩⟩, ⟨1, (⟨#[]⟩, ⟨#[97]⟩), [], ⟨#[]⟩⟩]
theorem emB_data (s : ByteArray) : emB s = s.data.toList.isEmpty := by unfold emB; rw [ByteArray.toList_eq]
def wkG : Gr := ⟨[], [(2, .int .i64 4), (0, .int .i64 5)], 2⟩
theorem wk_grow : growP wkE = some wkG := by
  simp [wkG, wkE, growP, grun, gstep, gbody, gfin, fldB, attGo, emB_data, aPut]
theorem wk_at : atP wkE 0 = some wkG := by
  unfold atP
  rw [if_pos (by simp [wkE]), wk_grow]
theorem wk_kids : kidsP wkE 0 = [2] := by
  unfold kidsP
  rw [wk_at]
  simp [kidsL, kidF, endN, endO, wkG, aGet]
theorem wk_text : strOfNums (textP wkE 0) = ⟨#[120, 121]⟩ := by
  unfold textP
  rw [wk_at]
  simp [endN, wkG, aGet, wkE, txsL, nums, strOfNums]
theorem wk_own : strOfNums (ownP wkE 0) = ⟨#[120]⟩ := by
  unfold ownP
  rw [wk_at, wk_kids]
  simp [endN, endO, wkG, aGet, wkE, txsL, nums, strOfNums, ownL, segL, fromK]
theorem wk_end : endV wkG 0 = .int .i64 5 := by simp [endV, wkG, aGet]
theorem wk_dep : depP wkE = 2 := by unfold depP; rw [wk_grow]; rfl
theorem nilC (B : Nat) (w : World) : CReads B w (.slice none 0 0) 0 [] := ⟨none, 0, rfl, fun i u h => by simp at h⟩
theorem results_cell1 {P : Program} {fn : Func} {p : Tmp} {ty : TypeId} (h : fn.results = #[.cell p ty]) (tmps : Array Value) (w : World) (g : Nat) (cs : Array Value) (d : TypeDesc)
    (hp : tmps.getD p undef = .pointer (some ⟨g, 0, none⟩)) (hg : BlkAt w g cs)
    (hu : P.underlying ty = some d) (hd : (match d with | .struct _ | .array _ _ => true | _ => false) = true) (hi : (P.info? ty).map (·.size) = some cs.size) :
    (results fn tmps).run P w = .ok (.agg cs) w := by
  obtain ⟨t, hg⟩ := hg
  have hp' : tmps[p]?.getD undef = .pointer (some ⟨g, 0, none⟩) := by simpa using hp
  simp [results, h, hp', asAddr, run_loadVar_row w g t ty cs _ d hg hu hd hi]
theorem law_start (s : ByteArray) (w : World) : Calls Try.prog 60 #[.string s] w fun r w' => r = .returned (.agg #[.int .i8 0, .string ⟨#[]⟩, .string s, .slice none 0 0, .string ⟨#[]⟩]) ∧ Below w.heap.size w w' := by
  have hb := ((Below.refl w.heap.size w).alloc (Nat.le_refl _) (.cells #[.int .i8 0, .string ⟨#[]⟩, .string s, .slice none 0 0, .string ⟨#[]⟩] 30))
  have bk := BlkAt.new w #[.int .i8 0, .string ⟨#[]⟩, .string s, .slice none 0 0, .string ⟨#[]⟩] 30
  go_enter Try.func60, Try.ntmps60
  go_wp2_with fail
  exact bodyPost_ret (results_cell1 rfl _ _ _ _ _ rfl bk Try.underlying30 rfl (by kernel_rfl)) rfl ⟨rfl, hb⟩
theorem law_text (s : ByteArray) (w : World) : Calls Try.prog 61 #[.string s] w fun r w' => r = .returned (.agg #[.int .i8 2, .string ⟨#[]⟩, .string ⟨#[]⟩, .slice none 0 0, .string s]) ∧ Below w.heap.size w w' := by
  have hb := ((Below.refl w.heap.size w).alloc (Nat.le_refl _) (.cells #[.int .i8 2, .string ⟨#[]⟩, .string ⟨#[]⟩, .slice none 0 0, .string s] 30))
  have bk := BlkAt.new w #[.int .i8 2, .string ⟨#[]⟩, .string ⟨#[]⟩, .slice none 0 0, .string s] 30
  go_enter Try.func61, Try.ntmps61
  go_wp2_with fail
  exact bodyPost_ret (results_cell1 rfl _ _ _ _ _ rfl bk Try.underlying30 rfl (by kernel_rfl)) rfl ⟨rfl, hb⟩
theorem law_end (s : ByteArray) (w : World) : Calls Try.prog 62 #[.string s] w fun r w' => r = .returned (.agg #[.int .i8 1, .string ⟨#[]⟩, .string s, .slice none 0 0, .string ⟨#[]⟩]) ∧ Below w.heap.size w w' := by
  have hb := ((Below.refl w.heap.size w).alloc (Nat.le_refl _) (.cells #[.int .i8 1, .string ⟨#[]⟩, .string s, .slice none 0 0, .string ⟨#[]⟩] 30))
  have bk := BlkAt.new w #[.int .i8 1, .string ⟨#[]⟩, .string s, .slice none 0 0, .string ⟨#[]⟩] 30
  go_enter Try.func62, Try.ntmps62
  go_wp2_with fail
  exact bodyPost_ret (results_cell1 rfl _ _ _ _ _ rfl bk Try.underlying30 rfl (by kernel_rfl)) rfl ⟨rfl, hb⟩
set_option maxRecDepth 100000 in
set_option maxHeartbeats 8000000 in
theorem law_wakes (w : World) : Calls Try.prog 17 #[] w fun r w' => r = .returned (.bool true) ∧ Below w.heap.size w w' := by
  have HS := Lib.hid law_start
  have HT := Lib.hid law_text
  have HE := Lib.hid law_end
  have hB0 := Below.refl w.heap.size w
  go_enter Try.func17, Try.ntmps17
  go_wp2_with first
    | (go_at_call 60; refine (HS.out _ _).mono ?_; rintro r w1 ⟨rfl, hb1⟩; replace hB0 := bt hB0 hb1; clear hb1)
    | (go_at_call 61; refine (HT.out _ _).mono ?_; rintro r w1 ⟨rfl, hb1⟩; replace hB0 := bt hB0 hb1; clear hb1)
    | (go_at_call 62; refine (HE.out _ _).mono ?_; rintro r w1 ⟨rfl, hb1⟩; replace hB0 := bt hB0 hb1; clear hb1)
  have hO := OwnE.lit (B := w1.heap.size) (base := w1.heap.size) (w := w1) (es := wkE) [.slice none 0 0, .slice none 0 0, .slice none 0 0, .slice none 0 0, .slice none 0 0, .slice none 0 0]
    #[.int .i8 0, .string ⟨#[]⟩, .string ⟨#[97]⟩, .slice none 0 0, .string ⟨#[]⟩, .int .i8 2, .string ⟨#[]⟩, .string ⟨#[]⟩, .slice none 0 0, .string ⟨#[120]⟩, .int .i8 0, .string ⟨#[]⟩, .string ⟨#[98]⟩, .slice none 0 0, .string ⟨#[]⟩,
      .int .i8 2, .string ⟨#[]⟩, .string ⟨#[]⟩, .slice none 0 0, .string ⟨#[121]⟩, .int .i8 1, .string ⟨#[]⟩, .string ⟨#[98]⟩, .slice none 0 0, .string ⟨#[]⟩, .int .i8 1, .string ⟨#[]⟩, .string ⟨#[97]⟩, .slice none 0 0, .string ⟨#[]⟩]
    rfl ⟨nilC _ _, nilC _ _, nilC _ _, nilC _ _, nilC _ _, nilC _ _, trivial⟩ (Nat.le_refl _) 6 rfl (by decide)
  have hb2 := hB0.alloc hB0.size (.cells #[.int .i8 0, .string ⟨#[]⟩, .string ⟨#[97]⟩, .slice none 0 0, .string ⟨#[]⟩, .int .i8 2, .string ⟨#[]⟩, .string ⟨#[]⟩, .slice none 0 0, .string ⟨#[120]⟩, .int .i8 0, .string ⟨#[]⟩, .string ⟨#[98]⟩, .slice none 0 0, .string ⟨#[]⟩,
      .int .i8 2, .string ⟨#[]⟩, .string ⟨#[]⟩, .slice none 0 0, .string ⟨#[121]⟩, .int .i8 1, .string ⟨#[]⟩, .string ⟨#[98]⟩, .slice none 0 0, .string ⟨#[]⟩, .int .i8 1, .string ⟨#[]⟩, .string ⟨#[97]⟩, .slice none 0 0, .string ⟨#[]⟩] 30)
  generalize w1.alloc (.cells #[.int .i8 0, .string ⟨#[]⟩, .string ⟨#[97]⟩, .slice none 0 0, .string ⟨#[]⟩, .int .i8 2, .string ⟨#[]⟩, .string ⟨#[]⟩, .slice none 0 0, .string ⟨#[120]⟩, .int .i8 0, .string ⟨#[]⟩, .string ⟨#[98]⟩, .slice none 0 0, .string ⟨#[]⟩,
      .int .i8 2, .string ⟨#[]⟩, .string ⟨#[]⟩, .slice none 0 0, .string ⟨#[121]⟩, .int .i8 1, .string ⟨#[]⟩, .string ⟨#[98]⟩, .slice none 0 0, .string ⟨#[]⟩, .int .i8 1, .string ⟨#[]⟩, .string ⟨#[97]⟩, .slice none 0 0, .string ⟨#[]⟩] 30) = W at hO hb2 ⊢
  have hcap := hO.cap
  have hR : EvsR W.heap.size W _ wkE := hO.reads (by obtain ⟨avs, h1, -⟩ := hO; exact Nat.le_of_lt (h1.lt _ rfl).2)
  generalize w1.heap.size = q at *
  have F1 : ∀ e ∈ wkE, e.at_.length ≤ 140737488351232 := by decide
  have F2 : (txsL wkE).length < 140737488355329 := by simp [txsL, wkE, nums]
  have HE1 := Lib.hid (fun (u : World) (hu : Below W.heap.size W u) => events_End W.heap.size wkE (.slice (some ⟨q, 0, none⟩) 6 6) 0 u (hR.below hu (Nat.le_refl _)) hu.size (by decide) F1)
  have HT1 := Lib.hid (fun (u : World) (hu : Below W.heap.size W u) => events_Text W.heap.size wkE (.slice (some ⟨q, 0, none⟩) 6 6) 0 u (hR.below hu (Nat.le_refl _)) hu.size (by decide) F1 F2 hcap)
  have HO1 := Lib.hid (fun (u : World) (hu : Below W.heap.size W u) => events_Own W.heap.size wkE (.slice (some ⟨q, 0, none⟩) 6 6) 0 u (hR.below hu (Nat.le_refl _)) hu.size (by decide) F1 F2 hcap)
  have HW1 := Lib.hid (fun (u : World) (hu : Below W.heap.size W u) => events_Whole W.heap.size wkE (.slice (some ⟨q, 0, none⟩) 6 6) u (hR.below hu (Nat.le_refl _)) hu.size (by decide) F1)
  have HD1 := Lib.hid (fun (u : World) (hu : Below W.heap.size W u) => events_Depth W.heap.size wkE (.slice (some ⟨q, 0, none⟩) 6 6) u (hR.below hu (Nat.le_refl _)) hu.size (by decide) F1)
  clear HS HT HE hO hcap hR F1 F2
  have hU := Below.refl W.heap.size W
  refine (HE1.out _ hU).mono ?_
  rintro r u1 ⟨hb, hr⟩
  rw [wk_at] at hr
  replace hU := hU.trans (hb.mono hU.size)
  rw [show r = _ from hr, wk_end]
  clear hr hb HE1
  go_wp2_with fail
  refine (HT1.out _ hU).mono ?_
  rintro r u1 ⟨rfl, hb⟩
  replace hU := hU.trans (hb.mono hU.size)
  rw [wk_text]
  go_wp2_with fail
  refine (HO1.out _ hU).mono ?_
  rintro r u1 ⟨rfl, hb⟩
  replace hU := hU.trans (hb.mono hU.size)
  rw [wk_own]
  go_wp2_with fail
  refine (HW1.out _ hU).mono ?_
  rintro r u1 ⟨rfl, hb⟩
  replace hU := hU.trans (hb.mono hU.size)
  rw [wk_grow]
  go_wp2_with fail
  refine (HD1.out _ hU).mono ?_
  rintro r u1 ⟨rfl, hb⟩
  replace hU := hU.trans (hb.mono hU.size)
  rw [wk_dep]
  go_wp2_with fail
  go_ret
  exact ⟨rfl, bt hb2 hU⟩
end Go.Proofs.Yteefopeclfojiaa
