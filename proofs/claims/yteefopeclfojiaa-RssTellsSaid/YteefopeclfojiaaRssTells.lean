/-
  RssTells returns true for every input, and each argument reads behind the call as it read before. No condition.
-/
import Derived.Test.YteefopeclfojiaaRows
import Derived.Test.YteefopeclfojiaaG19
import Derived.Test.YteefopeclfojiaaFr
import Derived.Test.YteefopeclfojiaaG2
import Derived.Test.YteefopeclfojiaaG7
import Derived.Test.YteefopeclfojiaaG12
namespace Go.Proofs.Yteefopeclfojiaa.rssTells
open Go.ChangeShapes Go.WideShapes Go.ChangeAt Go.RowKit
open Go.ChangeMaps (open_string shut_string)
set_option linter.unusedVariables false

theorem own : ownKnob Try.prog.godebug = none := by kernel_rfl
theorem laidOut : laidOutB Try.prog = true := by kernel_rfl
theorem walk (a0 : Value) (x0 : List Evt) (a1 : Value) (x1 : List (ByteArray × ByteArray)) (a2 : ByteArray × ByteArray) (w : World) (w0 : EvsIn w a0 x0) (w1 : NsR w a1 x1) (w2 : NmIn a2) :
    Calls Try.prog 11 #[a0, a1, .agg #[.string a2.1, .string a2.2]] w fun e w' => e = .returned (.bool true) ∧ Below w.heap.size w w' := by
  exact law_RssTells a0 x0 a1 x1 a2 w w0 w1 w2

set_option maxRecDepth 100000 in
theorem lifted (os : Os) (started : os.Started) (H : Type) (enc : TypeId × Value → H) :
    ReturnsInHanded {} Try.checked os 11 .any (Rows.rssTellsSpec.pre6 enc Try.prog Try.f11 Rows.rssTellsRow.domain false) (Rows.rssTellsSpec.post enc Try.prog Try.f11 false true false false) := by
  refine returnsInHanded_of_change_shaped (C := Try.checked) own started (by kernel_rfl) Try.func11
    (ChangeSpec.witness6 (enc := enc) (C := Try.checked) false ⟨#[], #[.slice none 0 0, .slice none 0 0, .agg #[.string ByteArray.empty, .string ByteArray.empty]], []⟩ 8 (by kernel_rfl) (by kernel_rfl) (by kernel_rfl) (by kernel_rfl)) ?_
  intro W base args ds gs before hval0 hW hcnd hsz0 hsh _
  have hval : ∀ (j : Nat) t v, Try.f11.params[j]? = some t → args[j]? = some v → Value.okWide Try.prog W .any base t v := hval0
  have hW' := hW
  obtain ⟨p, q, hA0, hV, rfl, hfz, hnd⟩ := hW
  have hA : DataW.TrodAll enc Try.prog W 0 (fun _ => true) true Try.f11.params.toList args.toList ds p := hA0
  have hsz : (DataW.weightsEach Try.prog (Try.f11.params.toList ++ Rows.rssTellsSpec.plain.varTypes Try.prog) (ds ++ gs)).all (· ≤ reachBytes) = true := hsz0
  rw [Try.params11] at hA hval hsz
  obtain ⟨v0, vs0, d0, ds0, p0, q0, hargs, rfl, rfl, h0, r0⟩ := trodAll_cons hA
  obtain ⟨v1, vs1, d1, ds1, p1, q1, rfl, rfl, rfl, h1, r1⟩ := trodAll_cons r0
  obtain ⟨v2, vs2, d2, ds2, p2, q2, rfl, rfl, rfl, h2, r2⟩ := trodAll_cons r1
  obtain ⟨rfl, rfl, rfl⟩ := trodAll_nil r2
  obtain rfl : args = #[v0, v1, v2] := by cases args; simp_all
  obtain ⟨rfl, rfl⟩ := trodVars_none hV
  have k0 := h0
  have lt0 : ∀ x ∈ p0, x.block < W.heap.size := by obtain ⟨mm, hmm⟩ := k0; exact DataW.trod_lt mm _ _ _ hmm
  obtain ⟨x0, r0s⟩ := open_evs (hval 0 22 v0 rfl rfl) h0 (wt_of hsz 0 rfl rfl)
  have k1 := h1
  have lt1 : ∀ x ∈ p1, x.block < W.heap.size := by obtain ⟨mm, hmm⟩ := k1; exact DataW.trod_lt mm _ _ _ hmm
  obtain ⟨x1, r1s⟩ := open_nms (hval 1 38 v1 rfl rfl) h1 (wt_of hsz 1 rfl rfl)
  have k2 := h2
  have lt2 : ∀ x ∈ p2, x.block < W.heap.size := by obtain ⟨mm, hmm⟩ := k2; exact DataW.trod_lt mm _ _ _ hmm
  obtain ⟨a2, rfl, r2s⟩ := open_nm (hval 2 24 v2 rfl rfl) h2 (wt_of hsz 2 rfl rfl)
  clear hA0 hval0
  refine (walk v0 x0 v1 x1 a2 W r0s r1s r2s).mono fun e W' ⟨he, hg⟩ => ?_
  subst he
  exact ⟨_, rfl, _, _, _, [], _, [], hW', trodAll_mk1 (shut_bool Try.underlying4 _), (trodAll_cons_mk (Below.trod laidOut (by kernel_rfl) (of_decide_eq_true (by kernel_rfl)) k0 hg lt0) (trodAll_cons_mk (Below.trod laidOut (by kernel_rfl) (of_decide_eq_true (by kernel_rfl)) k1 hg lt1) (trodAll_cons_mk (Below.trod laidOut (by kernel_rfl) (of_decide_eq_true (by kernel_rfl)) k2 hg lt2) trodAll_mk0))), rfl, hg.frame _, fun h => by cases h⟩

theorem over : Rows.rssTellsRow.holds Try.pinned (OpenSpec.ofChange Rows.rssTellsSpec) :=
  OpenClaim.holds_of_wide 11 Try.f11 rfl rfl rfl rfl rfl rfl rfl ⟨rfl, rfl, rfl, rfl, rfl⟩ rfl rfl rfl rfl rfl (by kernel_rfl) Try.func11 (by kernel_rfl)
    (of_decide_eq_true (by kernel_rfl)) (by unfold Func.isWrapper; first | (rw [if_pos (by decide +kernel)]; kernel_rfl) | (rw [if_neg (by decide +kernel)]; exact ⟨rfl, rfl⟩))
    (fun os started H enc _ => lifted os started H enc)
theorem proved : Rows.RssTellsSaid := over
#print axioms proved
end Go.Proofs.Yteefopeclfojiaa.rssTells
