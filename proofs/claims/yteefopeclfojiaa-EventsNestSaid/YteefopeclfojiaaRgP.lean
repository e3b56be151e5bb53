/-
  A range over an iterator whose caller must know, in a round, which values came so far: they are a part of what is given.
-/
import Derived.Test.YteefopeclfojiaaRg
namespace Go.Proofs.Yteefopeclfojiaa
open Go.RowKit
/-- what the iterator owes, to a caller whose invariant abides its own turns. -/
def SeqStopsP {α : Type} (Mu : Obj → Prop) (F : Fence) (n : Nat) (P : Program) (g : Nat) (lb : Array Value) (encs : α → Array Value) (Kp : World → World → Prop) (S Sp : List α → Prop) (N : Nat) (w : World) : Prop :=
  ∀ (l : Nat) (J Jx : List α → World → Prop) (W : World), Below w.heap.size w W → AbidesM Mu W.heap.size J → AbidesM Mu W.heap.size Jx →
    (∀ pre x W1, J pre W1 → Sp (pre ++ [x]) → pre.length < N → YieldAt F (n - 1) P l (encs x) W1 fun e W' =>
      (e = .returned (.bool true) ∧ J (pre ++ [x]) W' ∧ Kp W1 W') ∨ (e = .returned (.bool false) ∧ Jx (pre ++ [x]) W')) →
    J [] W →
    CallsIn F n P g (#[.func (.yield l) #[] #[]] ++ lb) W fun e W' => (∃ v, e = .returned v) ∧ ((∃ xs, S xs ∧ J xs W') ∨ (∃ pre, Sp pre ∧ Jx pre W'))
section
variable {F : Fence} {n : Nat} {P : Program}
/-- the range over such an iterator. -/
theorem wpIn_rangeFunc_ownP (Mu : Obj → Prop) {w : World} {α : Type} {g : Operand} {ps : Array Tmp} {assign body : Code} {Q : Exit → Act → World → Prop} {a : Act}
    (hro : F.round = none) (h1 : 1 ≤ n) {gf : Nat} {lb : Array Value} (hg : a.eval g = .func (.func gf) #[] lb) (hFg : F.fn gf) (eg : ∀ args w, (callFunc gf args).run P w = .ok (.enter gf args) w)
    {encs : α → Array Value} {Kp : World → World → Prop} {S Sp : List α → Prop} {N : Nat} {w0 : World} (hseq : SeqStopsP Mu F (n - 1) P gf lb encs Kp S Sp N w0)
    (hKt : ∀ {A B C : World}, Kp A B → Kp B C → Kp A C) (hKb : ∀ (W : World) (l : Nat) (o o' : Obj), w.heap.size ≤ l → W.heap[l]? = some o → o.isCells = false → o.isWalk = false → Kp W (W.putObj l o')) (hb0 : Below w0.heap.size w0 w) (hps : ∀ x, (encs x).size = ps.size)
    (I : List α → World → Prop) (Ix : Code → List α → World → Prop) (hI : OwnM Mu w.heap.size I) (hIx : ∀ c, OwnM Mu w.heap.size (Ix c)) (h0 : I [] w) (Ax : α → Act → World → Prop) (hAx : ∀ x a', OwnFrom w.heap.size (fun (_ : Unit) W => Ax x a' W))
    (hassign : ∀ (l : Nat) (pre : List α) (x : α) (W : World) (K : Act → World → Prop), I pre W → (∀ a' W', KeepsFrom w.heap.size W W' → Kp W W' → I pre W' → Ax x a' W' → K a' W') →
      assign.wpIn (F.inRound l) (n - 1 - 1) P (Exit.then K (fun _ _ _ => False)) { tmps := (ps.zip (encs x)).foldl (fun t (p, v) => t.setIfInBounds p v) a.tmps, defers := [] } W)
    (hbody : ∀ (l : Nat) (pre : List α) (x : α) (a' : Act) (W : World), w.heap.size ≤ l → I pre W → Ax x a' W → Sp (pre ++ [x]) → pre.length < N → body.wpIn (F.inRound l) (n - 1 - 1) P (ownPostG w.heap.size Kp I Ix (pre ++ [x]) W) a' W)
    (hdone : ∀ (D : Nat) (xs : List α) (W : World), w.heap.size ≤ D → S xs → I xs W → W.heap[D]? = some (.deferred (some [])) → Q .normal { a with defers := { target := .collected D, args := #[] } :: a.defers } W)
    (hstop : ∀ (D : Nat) (c : Code) (pre : List α) (W : World), w.heap.size ≤ D → Sp pre → Ix c pre W → W.heap[D]? = some (.deferred (some [])) → c.wpIn F n P Q { a with defers := { target := .collected D, args := #[] } :: a.defers } W) :
    (Code.rangeFunc g ps assign body).wpIn F n P Q a w := by
  refine wpIn_rangeFunc fun fn hfn => ?_
  rw [hro]
  obtain ⟨R, hR⟩ : ∃ R, R = recM fn a.tmps ps assign body w.heap.size := ⟨_, rfl⟩
  have hbk := BookM.made w (R .ready none)
  have hi0 : I [] ((w.alloc (.deferred (some []))).alloc (.loop (R .ready none))) := hI.from.alloc _ (hI.from.alloc _ h0)
  have hbl := ((Below.refl _ w).alloc (Nat.le_refl _) (.deferred (some []))).alloc (by simp) (.loop (R .ready none))
  have hen := run_enterLoop_outer (P := P) (w := w) fn a.tmps ps assign body
  obtain ⟨V, hV⟩ : ∃ V, (w.alloc (.deferred (some []))).alloc (.loop (R .ready none)) = V := ⟨_, rfl⟩
  have hVs : V.heap.size = w.heap.size + 2 := by rw [← hV]; simp
  have hrel : ∀ {A : World} {row : Option Nat}, (∀ r, row = some r → V.heap.size ≤ r ∧ ∃ o : Obj, A.heap[r]? = some o ∧ (o.isWalk = true ∨ Mu o)) → ∀ r, row = some r → w.heap.size ≤ r ∧ ∃ o : Obj, A.heap[r]? = some o ∧ (o.isCells = false ∨ Mu o) :=
    fun hr r e => by
      obtain ⟨hB, o, ho, hw⟩ := hr r e
      exact ⟨by omega, o, ho, hw.imp Obj.not_cells_of_walk id⟩
  refine ⟨w.heap.size + 1, [{ target := .collected w.heap.size, args := #[] }], V, { target := .fn (.func gf) lb, args := #[.func (.yield (w.heap.size + 1)) #[] #[]] }, V, gf, #[.func (.yield (w.heap.size + 1)) #[] #[]] ++ lb, V,
    (by rw [← hV, hR]; exact hen), (by simp only [resolve, hg]; simp [go_sem]), (fun f' hf' => by simp [Target.leads] at hf'; subst hf'; exact hFg), (by simp [invoke, go_sem, eg]), (fun _ => h1), ?_⟩
  rw [hV] at hbk hi0 hbl
  refine (hseq (w.heap.size + 1) (fun pre W => I pre W ∧ BookM w.heap.size (R .ready none) W) (fun pre W => ∃ c, Ix c pre W ∧ BookM w.heap.size (R .done (some c)) W) V (hb0.trans (hbl.mono hb0.size))
    (fun s A B row hs hgr hr => ⟨hI s A B hs.1 ⟨row, hgr, hrel hr⟩, hs.2.abides (by omega) hgr hr⟩)
    (fun s A B row ⟨c, hc, hb⟩ hgr hr => ⟨c, hIx c s A B hc ⟨row, hgr, hrel hr⟩, hb.abides (by omega) hgr hr⟩) ?_ ⟨hi0, hbk⟩).mono ?_
  · rintro pre x W ⟨hi, hbW⟩ hsp hlen
    have hy := run_yield (P := P) (args := encs x) hbW.1 (by rw [hR]; exact hps x)
    rw [hR] at hy
    refine ⟨fn, _, assign, body, hy, roundIn_of_wpIn hfn (hassign _ pre x W _ hi fun a' U hkU hkpU hiU hax => ?_)⟩
    have hbU := hbW.keeps hkU
    have hput := fun (X : World) (L : Loop) (hX : BookM w.heap.size L X) (L' : Loop) => hKb X _ _ (.loop L') (Nat.le_succ _) hX.1 rfl rfl
    refine ⟨_, run_beginRound hbU.1 (by rw [hR]; rfl), ?_⟩
    have hbB := hbU.put { R .ready none with state := .busy }
    refine wpIn_mono (hbody _ pre x a' _ (Nat.le_succ _) (hI.from.putObj _ hiU (Nat.le_succ _) hbU.1 rfl) ((hAx x a').putObj (s := ()) _ hax (Nat.le_succ _) hbU.1 rfl) hsp hlen) ?_
    have hkp1 := hKt hkpU (hput _ _ hbU { R .ready none with state := .busy })
    have leave : ∀ (jump : Option Code) (X : World), KeepsFrom w.heap.size (U.putObj (w.heap.size + 1) (.loop { R .ready none with state := .busy })) X →
        (Instr.endRound (w.heap.size + 1) jump).run P X = .ok (.bool jump.isNone) (X.putObj (w.heap.size + 1) (.loop (R (if jump.isNone then .ready else .done) jump))) ∧ BookM w.heap.size { R .ready none with state := .busy } X := fun jump X hX => by
      have hbX := hbB.keeps hX
      refine ⟨?_, hbX⟩
      have := run_endRound (P := P) jump hbX.1
      rw [hR] at this ⊢
      exact this
    have jumps : ∀ (c : Code) (X : World), KeepsFrom w.heap.size (U.putObj (w.heap.size + 1) (.loop { R .ready none with state := .busy })) X → Ix c (pre ++ [x]) X →
        ∃ c', Ix c' (pre ++ [x]) (X.putObj (w.heap.size + 1) (.loop (R .done (some c)))) ∧ BookM w.heap.size (R .done (some c')) (X.putObj (w.heap.size + 1) (.loop (R .done (some c)))) := fun c X hX hc =>
      ⟨c, (hIx c).from.putObj _ hc (Nat.le_succ _) (leave none X hX).2.1 rfl, (leave none X hX).2.put _⟩
    intro e a3 X hp
    cases e with
    | normal =>
      obtain ⟨hX, hkp, hi3⟩ := hp
      obtain ⟨hr, hbX⟩ := leave none X hX
      exact ⟨_, _, hr, .inl ⟨rfl, ⟨hI.from.putObj _ hi3 (Nat.le_succ _) hbX.1 rfl, hbX.put _⟩, hKt hkp1 (hKt hkp (hput _ _ hbX _))⟩⟩
    | ret => exact ⟨_, _, (leave (some .ret) X hp.1).1, .inr ⟨rfl, jumps .ret X hp.1 hp.2⟩⟩
    | exit id => exact ⟨_, _, (leave (some (.exit id)) X hp.1).1, .inr ⟨rfl, jumps (.exit id) X hp.1 hp.2⟩⟩
    | goto t => exact ⟨_, _, (leave (some (.goto t)) X hp.1).1, .inr ⟨rfl, jumps (.goto t) X hp.1 hp.2⟩⟩
    | panic ch => exact hp.elim
    | outgrown => exact hp.elim
  · rintro e X ⟨⟨v, rfl⟩, ⟨xs, hS, hi, hb⟩ | ⟨pre, hSp, c, hi, hb⟩⟩
    all_goals
      have hend := run_endLoop (P := P) hb.1 (by rw [hR]; simp [recM])
      rw [hR] at hend
    · exact ⟨none, _, hend, hdone _ xs _ (Nat.le_refl _) hS (hI.from.putObj _ hi (Nat.le_succ _) hb.1 rfl) ((World.putObj_heap_other (by omega)).trans hb.2)⟩
    · exact ⟨some c, _, hend, hstop _ c pre _ (Nat.le_refl _) hSp ((hIx c).from.putObj _ hi (Nat.le_succ _) hb.1 rfl) ((World.putObj_heap_other (by omega)).trans hb.2)⟩
end
end Go.Proofs.Yteefopeclfojiaa
