/-
  Parts Rg RgP EvK EvL Qt EvQ of this seat's texts, in one file: contracts of functions that the law reaches, and the plain laws behind them. No condition.
-/
import Derived.Test.YteefopeclfojiaaG1
import Derived.RangeFuncNested
import Derived.Test.YteefopeclfojiaaG3
import Derived.RangeFuncOwn
import Derived.RangeFuncBound
import Derived.RangeFuncCalls
import Derived.RangeFuncLeaves
import Derived.Shelf.Abstract
import Derived.Shelf.RegionOpen
import Derived.OwnWalkIn
import Derived.LoopIn
import Derived.RangeFuncBox
import Derived.StillTail
import Derived.Lib.QuietBelowIn
/- 
  A range over an iterator that keeps state of its own in cells: the caller's invariant abides the change of such blocks too.
 -/
namespace Go.Proofs.Yteefopeclfojiaa
open Go.RowKit
/-- what the iterator itself may change of a world: a walk, or a block of the kind Mu, at B or above. -/
def Turns (Mu : Obj → Prop) (B : Nat) (W W' : World) : Prop := ∃ row : Option Nat, W.grownBy W' row ∧ ∀ r, row = some r → B ≤ r ∧ ∃ o : Obj, W.heap[r]? = some o ∧ (o.isCells = false ∨ Mu o)
/-- I stays as it is under such turns. -/
def OwnM {β : Type} (Mu : Obj → Prop) (B : Nat) (I : β → World → Prop) : Prop := ∀ s W W', I s W → Turns Mu B W W' → I s W'
/-- .. and where walks alone are meant among what is no cells. -/
def AbidesM {β : Type} (Mu : Obj → Prop) (B : Nat) (J : β → World → Prop) : Prop :=
  ∀ s W W' (row : Option Nat), J s W → W.grownBy W' row → (∀ r, row = some r → B ≤ r ∧ ∃ o : Obj, W.heap[r]? = some o ∧ (o.isWalk = true ∨ Mu o)) → J s W'
theorem OwnM.from {β : Type} {Mu : Obj → Prop} {B : Nat} {I : β → World → Prop} (h : OwnM Mu B I) : OwnFrom B I :=
  fun s W W' row hs hg hr => h s W W' hs ⟨row, hg, fun r e => by obtain ⟨h1, o, h2, h3⟩ := hr r e; exact ⟨h1, o, h2, .inl h3⟩⟩
theorem OwnM.and {β : Type} {Mu : Obj → Prop} {B : Nat} {I I' : β → World → Prop} (h : OwnM Mu B I) (h' : OwnM Mu B I') : OwnM Mu B (fun s W => I s W ∧ I' s W) :=
  fun s W W' hs ht => ⟨h s W W' hs.1 ht, h' s W W' hs.2 ht⟩
theorem OwnM.pure {β : Type} (Mu : Obj → Prop) (B : Nat) (p : β → Prop) : OwnM Mu B (fun s (_ : World) => p s) := fun _ _ _ hs _ => hs
theorem Turns.below {Mu : Obj → Prop} {B : Nat} {W W' : World} (h : Turns Mu B W W') {C : Nat} (hB : C ≤ B) (hC : C ≤ W.heap.size) : Below C W W' := by
  obtain ⟨row, hg, hr⟩ := h
  exact ⟨hg.os, hg.tape, hg.output, hg.size, fun k hk => hg.block k (by omega) (fun e => by have := (hr k e.symm).1; omega)⟩
/-- what the iterator owes, to a caller whose invariant abides its own turns. -/
def SeqStopsM {α : Type} (Mu : Obj → Prop) (F : Fence) (n : Nat) (P : Program) (g : Nat) (lb : Array Value) (encs : α → Array Value) (Kp : World → World → Prop) (S Sp : List α → Prop) (N : Nat) (w : World) : Prop :=
  ∀ (l : Nat) (J Jx : List α → World → Prop) (W : World), Below w.heap.size w W → AbidesM Mu W.heap.size J → AbidesM Mu W.heap.size Jx →
    (∀ pre x W1, J pre W1 → pre.length < N → YieldAt F (n - 1) P l (encs x) W1 fun e W' =>
      (e = .returned (.bool true) ∧ J (pre ++ [x]) W' ∧ Kp W1 W') ∨ (e = .returned (.bool false) ∧ Jx (pre ++ [x]) W')) →
    J [] W →
    CallsIn F n P g (#[.func (.yield l) #[] #[]] ++ lb) W fun e W' => (∃ v, e = .returned v) ∧ ((∃ xs, S xs ∧ J xs W') ∨ (∃ pre, Sp pre ∧ Jx pre W'))
section
variable {F : Fence} {n : Nat} {P : Program}
/-- a loop's record, its deferred calls at D. -/
def recM (fn : FuncId) (tmps : Array Value) (ps : Array Tmp) (assign body : Code) (D : Nat) (st : LoopState) (pe : Option Code) : Loop := { state := st, pending := pe, fn, tmps, params := ps, assign, body, defers := D }
/-- the two blocks of book-keeping, D and D + 1. -/
def BookM (D : Nat) (L : Loop) (W : World) : Prop := W.heap[D + 1]? = some (.loop L) ∧ W.heap[D]? = some (.deferred (some []))
theorem BookM.lt {D : Nat} {L : Loop} {W : World} (h : BookM D L W) : D + 1 < W.heap.size := (Array.getElem?_eq_some_iff.1 h.1).1
theorem BookM.keeps {D : Nat} {L : Loop} {W W' : World} (h : BookM D L W) (hk : KeepsFrom D W W') : BookM D L W' := ⟨hk.same _ _ (by omega) h.1 rfl, hk.same _ _ (Nat.le_refl _) h.2 rfl⟩
theorem BookM.put {D : Nat} {L : Loop} {W : World} (h : BookM D L W) (L' : Loop) : BookM D L' (W.putObj (D + 1) (.loop L')) := ⟨World.putObj_heap_same h.lt, (World.putObj_heap_other (by omega)).trans h.2⟩
theorem BookM.abides {Mu : Obj → Prop} {D B : Nat} {L : Loop} {W W' : World} (h : BookM D L W) (hB : D + 2 ≤ B) {row : Option Nat} (hg : W.grownBy W' row)
    (hr : ∀ r, row = some r → B ≤ r ∧ ∃ o : Obj, W.heap[r]? = some o ∧ (o.isWalk = true ∨ Mu o)) : BookM D L W' := by
  have hl := h.lt
  have far : ∀ k, k < D + 2 → W'.heap[k]? = W.heap[k]? := fun k hk => hg.block k (by omega) (fun e => by have := (hr k e.symm).1; omega)
  exact ⟨(far _ (by omega)).trans h.1, (far _ (by omega)).trans h.2⟩
theorem BookM.made (w : World) (L : Loop) : BookM w.heap.size L ((w.alloc (.deferred (some []))).alloc (.loop L)) := by
  refine ⟨?_, (Below.heap_alloc _ _ _ (by simp)).trans (World.alloc_heap_new w _)⟩
  have := World.alloc_heap_new (w.alloc (.deferred (some []))) (.loop L)
  rwa [World.size_alloc] at this
/-- the range over such an iterator. -/
theorem wpIn_rangeFunc_ownM (Mu : Obj → Prop) {w : World} {α : Type} {g : Operand} {ps : Array Tmp} {assign body : Code} {Q : Exit → Act → World → Prop} {a : Act}
    (hro : F.round = none) (h1 : 1 ≤ n) {gf : Nat} {lb : Array Value} (hg : a.eval g = .func (.func gf) #[] lb) (hFg : F.fn gf) (eg : ∀ args w, (callFunc gf args).run P w = .ok (.enter gf args) w)
    {encs : α → Array Value} {Kp : World → World → Prop} {S Sp : List α → Prop} {N : Nat} {w0 : World} (hseq : SeqStopsM Mu F (n - 1) P gf lb encs Kp S Sp N w0)
    (hKt : ∀ {A B C : World}, Kp A B → Kp B C → Kp A C) (hKb : ∀ (W : World) (l : Nat) (o o' : Obj), w.heap.size ≤ l → W.heap[l]? = some o → o.isCells = false → o.isWalk = false → Kp W (W.putObj l o')) (hb0 : Below w0.heap.size w0 w) (hps : ∀ x, (encs x).size = ps.size)
    (I : List α → World → Prop) (Ix : Code → List α → World → Prop) (hI : OwnM Mu w.heap.size I) (hIx : ∀ c, OwnM Mu w.heap.size (Ix c)) (h0 : I [] w) (Ax : α → Act → World → Prop) (hAx : ∀ x a', OwnFrom w.heap.size (fun (_ : Unit) W => Ax x a' W))
    (hassign : ∀ (l : Nat) (pre : List α) (x : α) (W : World) (K : Act → World → Prop), I pre W → (∀ a' W', KeepsFrom w.heap.size W W' → Kp W W' → I pre W' → Ax x a' W' → K a' W') →
      assign.wpIn (F.inRound l) (n - 1 - 1) P (Exit.then K (fun _ _ _ => False)) { tmps := (ps.zip (encs x)).foldl (fun t (p, v) => t.setIfInBounds p v) a.tmps, defers := [] } W)
    (hbody : ∀ (l : Nat) (pre : List α) (x : α) (a' : Act) (W : World), w.heap.size ≤ l → I pre W → Ax x a' W → pre.length < N → body.wpIn (F.inRound l) (n - 1 - 1) P (ownPostG w.heap.size Kp I Ix (pre ++ [x]) W) a' W)
    (hdone : ∀ (D : Nat) (xs : List α) (W : World), w.heap.size ≤ D → S xs → I xs W → W.heap[D]? = some (.deferred (some [])) → Q .normal { a with defers := { target := .collected D, args := #[] } :: a.defers } W)
    (hstop : ∀ (D : Nat) (c : Code) (pre : List α) (W : World), w.heap.size ≤ D → Sp pre → Ix c pre W → W.heap[D]? = some (.deferred (some [])) → c.wpIn F n P Q { a with defers := { target := .collected D, args := #[] } :: a.defers } W) :
    (Code.rangeFunc g ps assign body).wpIn F n P Q a w := by
  refine wpIn_rangeFunc fun fn hfn => ?_
  rw [hro]
  obtain ⟨R, hR⟩ : ∃ R, R = recM fn a.tmps ps assign body w.heap.size := ⟨_, rfl⟩
  have hbk := BookM.made w (R .ready none)
  have hi0 : I [] ((w.alloc (.deferred (some []))).alloc (.loop (R .ready none))) := hI.from.alloc _ (hI.from.alloc _ h0)
  have hbl := ((Below.refl _ w).alloc (Nat.le_refl _) (.deferred (some []))).alloc (by simp) (.loop (R .ready none))
  have hen := run_enterLoop_outer (P := P) (w := w) fn a.tmps ps assign body
  obtain ⟨V, hV⟩ : ∃ V, (w.alloc (.deferred (some []))).alloc (.loop (R .ready none)) = V := ⟨_, rfl⟩
  have hVs : V.heap.size = w.heap.size + 2 := by rw [← hV]; simp
  have hrel : ∀ {A : World} {row : Option Nat}, (∀ r, row = some r → V.heap.size ≤ r ∧ ∃ o : Obj, A.heap[r]? = some o ∧ (o.isWalk = true ∨ Mu o)) → ∀ r, row = some r → w.heap.size ≤ r ∧ ∃ o : Obj, A.heap[r]? = some o ∧ (o.isCells = false ∨ Mu o) :=
    fun hr r e => by
      obtain ⟨hB, o, ho, hw⟩ := hr r e
      exact ⟨by omega, o, ho, hw.imp Obj.not_cells_of_walk id⟩
  refine ⟨w.heap.size + 1, [{ target := .collected w.heap.size, args := #[] }], V, { target := .fn (.func gf) lb, args := #[.func (.yield (w.heap.size + 1)) #[] #[]] }, V, gf, #[.func (.yield (w.heap.size + 1)) #[] #[]] ++ lb, V,
    (by rw [← hV, hR]; exact hen), (by simp only [resolve, hg]; simp [go_sem]), (fun f' hf' => by simp [Target.leads] at hf'; subst hf'; exact hFg), (by simp [invoke, go_sem, eg]), (fun _ => h1), ?_⟩
  rw [hV] at hbk hi0 hbl
  refine (hseq (w.heap.size + 1) (fun pre W => I pre W ∧ BookM w.heap.size (R .ready none) W) (fun pre W => ∃ c, Ix c pre W ∧ BookM w.heap.size (R .done (some c)) W) V (hb0.trans (hbl.mono hb0.size))
    (fun s A B row hs hgr hr => ⟨hI s A B hs.1 ⟨row, hgr, hrel hr⟩, hs.2.abides (by omega) hgr hr⟩)
    (fun s A B row ⟨c, hc, hb⟩ hgr hr => ⟨c, hIx c s A B hc ⟨row, hgr, hrel hr⟩, hb.abides (by omega) hgr hr⟩) ?_ ⟨hi0, hbk⟩).mono ?_
  · rintro pre x W ⟨hi, hbW⟩ hlen
    have hy := run_yield (P := P) (args := encs x) hbW.1 (by rw [hR]; exact hps x)
    rw [hR] at hy
    refine ⟨fn, _, assign, body, hy, roundIn_of_wpIn hfn (hassign _ pre x W _ hi fun a' U hkU hkpU hiU hax => ?_)⟩
    have hbU := hbW.keeps hkU
    have hput := fun (X : World) (L : Loop) (hX : BookM w.heap.size L X) (L' : Loop) => hKb X _ _ (.loop L') (Nat.le_succ _) hX.1 rfl rfl
    refine ⟨_, run_beginRound hbU.1 (by rw [hR]; rfl), ?_⟩
    have hbB := hbU.put { R .ready none with state := .busy }
    refine wpIn_mono (hbody _ pre x a' _ (Nat.le_succ _) (hI.from.putObj _ hiU (Nat.le_succ _) hbU.1 rfl) ((hAx x a').putObj (s := ()) _ hax (Nat.le_succ _) hbU.1 rfl) hlen) ?_
    have hkp1 := hKt hkpU (hput _ _ hbU { R .ready none with state := .busy })
    have leave : ∀ (jump : Option Code) (X : World), KeepsFrom w.heap.size (U.putObj (w.heap.size + 1) (.loop { R .ready none with state := .busy })) X →
        (Instr.endRound (w.heap.size + 1) jump).run P X = .ok (.bool jump.isNone) (X.putObj (w.heap.size + 1) (.loop (R (if jump.isNone then .ready else .done) jump))) ∧ BookM w.heap.size { R .ready none with state := .busy } X := fun jump X hX => by
      have hbX := hbB.keeps hX
      refine ⟨?_, hbX⟩
      have := run_endRound (P := P) jump hbX.1
      rw [hR] at this ⊢
      exact this
    have jumps : ∀ (c : Code) (X : World), KeepsFrom w.heap.size (U.putObj (w.heap.size + 1) (.loop { R .ready none with state := .busy })) X → Ix c (pre ++ [x]) X →
        ∃ c', Ix c' (pre ++ [x]) (X.putObj (w.heap.size + 1) (.loop (R .done (some c)))) ∧ BookM w.heap.size (R .done (some c')) (X.putObj (w.heap.size + 1) (.loop (R .done (some c)))) := fun c X hX hc =>
      ⟨c, (hIx c).from.putObj _ hc (Nat.le_succ _) (leave none X hX).2.1 rfl, (leave none X hX).2.put _⟩
    intro e a3 X hp
    cases e with
    | normal =>
      obtain ⟨hX, hkp, hi3⟩ := hp
      obtain ⟨hr, hbX⟩ := leave none X hX
      exact ⟨_, _, hr, .inl ⟨rfl, ⟨hI.from.putObj _ hi3 (Nat.le_succ _) hbX.1 rfl, hbX.put _⟩, hKt hkp1 (hKt hkp (hput _ _ hbX _))⟩⟩
    | ret => exact ⟨_, _, (leave (some .ret) X hp.1).1, .inr ⟨rfl, jumps .ret X hp.1 hp.2⟩⟩
    | exit id => exact ⟨_, _, (leave (some (.exit id)) X hp.1).1, .inr ⟨rfl, jumps (.exit id) X hp.1 hp.2⟩⟩
    | goto t => exact ⟨_, _, (leave (some (.goto t)) X hp.1).1, .inr ⟨rfl, jumps (.goto t) X hp.1 hp.2⟩⟩
    | panic ch => exact hp.elim
    | outgrown => exact hp.elim
  · rintro e X ⟨⟨v, rfl⟩, ⟨xs, hS, hi, hb⟩ | ⟨pre, hSp, c, hi, hb⟩⟩
    all_goals
      have hend := run_endLoop (P := P) hb.1 (by rw [hR]; simp [recM])
      rw [hR] at hend
    · exact ⟨none, _, hend, hdone _ xs _ (Nat.le_refl _) hS (hI.from.putObj _ hi (Nat.le_succ _) hb.1 rfl) ((World.putObj_heap_other (by omega)).trans hb.2)⟩
    · exact ⟨some c, _, hend, hstop _ c pre _ (Nat.le_refl _) hSp ((hIx c).from.putObj _ hi (Nat.le_succ _) hb.1 rfl) ((World.putObj_heap_other (by omega)).trans hb.2)⟩
end
end Go.Proofs.Yteefopeclfojiaa
/- 
  A range over an iterator whose caller must know, in a round, which values came so far: they are a part of what is given.
 -/
namespace Go.Proofs.Yteefopeclfojiaa
open Go.RowKit
/-- what the iterator owes, to a caller whose invariant abides its own turns. -/
def SeqStopsP {α : Type} (Mu : Obj → Prop) (F : Fence) (n : Nat) (P : Program) (g : Nat) (lb : Array Value) (encs : α → Array Value) (Kp : World → World → Prop) (S Sp : List α → Prop) (N : Nat) (w : World) : Prop :=
  ∀ (l : Nat) (J Jx : List α → World → Prop) (W : World), Below w.heap.size w W → AbidesM Mu W.heap.size J → AbidesM Mu W.heap.size Jx →
    (∀ pre x W1, J pre W1 → Sp (pre ++ [x]) → pre.length < N → YieldAt F (n - 1) P l (encs x) W1 fun e W' =>
      (e = .returned (.bool true) ∧ J (pre ++ [x]) W' ∧ Kp W1 W') ∨ (e = .returned (.bool false) ∧ Jx (pre ++ [x]) W')) →
    J [] W →
    CallsIn F n P g (#[.func (.yield l) #[] #[]] ++ lb) W fun e W' => (∃ v, e = .returned v) ∧ ((∃ xs, S xs ∧ J xs W') ∨ (∃ pre, Sp pre ∧ Jx pre W'))
section
variable {F : Fence} {n : Nat} {P : Program}
/-- the range over such an iterator. -/
theorem wpIn_rangeFunc_ownP (Mu : Obj → Prop) {w : World} {α : Type} {g : Operand} {ps : Array Tmp} {assign body : Code} {Q : Exit → Act → World → Prop} {a : Act}
    (hro : F.round = none) (h1 : 1 ≤ n) {gf : Nat} {lb : Array Value} (hg : a.eval g = .func (.func gf) #[] lb) (hFg : F.fn gf) (eg : ∀ args w, (callFunc gf args).run P w = .ok (.enter gf args) w)
    {encs : α → Array Value} {Kp : World → World → Prop} {S Sp : List α → Prop} {N : Nat} {w0 : World} (hseq : SeqStopsP Mu F (n - 1) P gf lb encs Kp S Sp N w0)
    (hKt : ∀ {A B C : World}, Kp A B → Kp B C → Kp A C) (hKb : ∀ (W : World) (l : Nat) (o o' : Obj), w.heap.size ≤ l → W.heap[l]? = some o → o.isCells = false → o.isWalk = false → Kp W (W.putObj l o')) (hb0 : Below w0.heap.size w0 w) (hps : ∀ x, (encs x).size = ps.size)
    (I : List α → World → Prop) (Ix : Code → List α → World → Prop) (hI : OwnM Mu w.heap.size I) (hIx : ∀ c, OwnM Mu w.heap.size (Ix c)) (h0 : I [] w) (Ax : α → Act → World → Prop) (hAx : ∀ x a', OwnFrom w.heap.size (fun (_ : Unit) W => Ax x a' W))
    (hassign : ∀ (l : Nat) (pre : List α) (x : α) (W : World) (K : Act → World → Prop), I pre W → (∀ a' W', KeepsFrom w.heap.size W W' → Kp W W' → I pre W' → Ax x a' W' → K a' W') →
      assign.wpIn (F.inRound l) (n - 1 - 1) P (Exit.then K (fun _ _ _ => False)) { tmps := (ps.zip (encs x)).foldl (fun t (p, v) => t.setIfInBounds p v) a.tmps, defers := [] } W)
    (hbody : ∀ (l : Nat) (pre : List α) (x : α) (a' : Act) (W : World), w.heap.size ≤ l → I pre W → Ax x a' W → Sp (pre ++ [x]) → pre.length < N → body.wpIn (F.inRound l) (n - 1 - 1) P (ownPostG w.heap.size Kp I Ix (pre ++ [x]) W) a' W)
    (hdone : ∀ (D : Nat) (xs : List α) (W : World), w.heap.size ≤ D → S xs → I xs W → W.heap[D]? = some (.deferred (some [])) → Q .normal { a with defers := { target := .collected D, args := #[] } :: a.defers } W)
    (hstop : ∀ (D : Nat) (c : Code) (pre : List α) (W : World), w.heap.size ≤ D → Sp pre → Ix c pre W → W.heap[D]? = some (.deferred (some [])) → c.wpIn F n P Q { a with defers := { target := .collected D, args := #[] } :: a.defers } W) :
    (Code.rangeFunc g ps assign body).wpIn F n P Q a w := by
  refine wpIn_rangeFunc fun fn hfn => ?_
  rw [hro]
  obtain ⟨R, hR⟩ : ∃ R, R = recM fn a.tmps ps assign body w.heap.size := ⟨_, rfl⟩
  have hbk := BookM.made w (R .ready none)
  have hi0 : I [] ((w.alloc (.deferred (some []))).alloc (.loop (R .ready none))) := hI.from.alloc _ (hI.from.alloc _ h0)
  have hbl := ((Below.refl _ w).alloc (Nat.le_refl _) (.deferred (some []))).alloc (by simp) (.loop (R .ready none))
  have hen := run_enterLoop_outer (P := P) (w := w) fn a.tmps ps assign body
  obtain ⟨V, hV⟩ : ∃ V, (w.alloc (.deferred (some []))).alloc (.loop (R .ready none)) = V := ⟨_, rfl⟩
  have hVs : V.heap.size = w.heap.size + 2 := by rw [← hV]; simp
  have hrel : ∀ {A : World} {row : Option Nat}, (∀ r, row = some r → V.heap.size ≤ r ∧ ∃ o : Obj, A.heap[r]? = some o ∧ (o.isWalk = true ∨ Mu o)) → ∀ r, row = some r → w.heap.size ≤ r ∧ ∃ o : Obj, A.heap[r]? = some o ∧ (o.isCells = false ∨ Mu o) :=
    fun hr r e => by
      obtain ⟨hB, o, ho, hw⟩ := hr r e
      exact ⟨by omega, o, ho, hw.imp Obj.not_cells_of_walk id⟩
  refine ⟨w.heap.size + 1, [{ target := .collected w.heap.size, args := #[] }], V, { target := .fn (.func gf) lb, args := #[.func (.yield (w.heap.size + 1)) #[] #[]] }, V, gf, #[.func (.yield (w.heap.size + 1)) #[] #[]] ++ lb, V,
    (by rw [← hV, hR]; exact hen), (by simp only [resolve, hg]; simp [go_sem]), (fun f' hf' => by simp [Target.leads] at hf'; subst hf'; exact hFg), (by simp [invoke, go_sem, eg]), (fun _ => h1), ?_⟩
  rw [hV] at hbk hi0 hbl
  refine (hseq (w.heap.size + 1) (fun pre W => I pre W ∧ BookM w.heap.size (R .ready none) W) (fun pre W => ∃ c, Ix c pre W ∧ BookM w.heap.size (R .done (some c)) W) V (hb0.trans (hbl.mono hb0.size))
    (fun s A B row hs hgr hr => ⟨hI s A B hs.1 ⟨row, hgr, hrel hr⟩, hs.2.abides (by omega) hgr hr⟩)
    (fun s A B row ⟨c, hc, hb⟩ hgr hr => ⟨c, hIx c s A B hc ⟨row, hgr, hrel hr⟩, hb.abides (by omega) hgr hr⟩) ?_ ⟨hi0, hbk⟩).mono ?_
  · rintro pre x W ⟨hi, hbW⟩ hsp hlen
    have hy := run_yield (P := P) (args := encs x) hbW.1 (by rw [hR]; exact hps x)
    rw [hR] at hy
    refine ⟨fn, _, assign, body, hy, roundIn_of_wpIn hfn (hassign _ pre x W _ hi fun a' U hkU hkpU hiU hax => ?_)⟩
    have hbU := hbW.keeps hkU
    have hput := fun (X : World) (L : Loop) (hX : BookM w.heap.size L X) (L' : Loop) => hKb X _ _ (.loop L') (Nat.le_succ _) hX.1 rfl rfl
    refine ⟨_, run_beginRound hbU.1 (by rw [hR]; rfl), ?_⟩
    have hbB := hbU.put { R .ready none with state := .busy }
    refine wpIn_mono (hbody _ pre x a' _ (Nat.le_succ _) (hI.from.putObj _ hiU (Nat.le_succ _) hbU.1 rfl) ((hAx x a').putObj (s := ()) _ hax (Nat.le_succ _) hbU.1 rfl) hsp hlen) ?_
    have hkp1 := hKt hkpU (hput _ _ hbU { R .ready none with state := .busy })
    have leave : ∀ (jump : Option Code) (X : World), KeepsFrom w.heap.size (U.putObj (w.heap.size + 1) (.loop { R .ready none with state := .busy })) X →
        (Instr.endRound (w.heap.size + 1) jump).run P X = .ok (.bool jump.isNone) (X.putObj (w.heap.size + 1) (.loop (R (if jump.isNone then .ready else .done) jump))) ∧ BookM w.heap.size { R .ready none with state := .busy } X := fun jump X hX => by
      have hbX := hbB.keeps hX
      refine ⟨?_, hbX⟩
      have := run_endRound (P := P) jump hbX.1
      rw [hR] at this ⊢
      exact this
    have jumps : ∀ (c : Code) (X : World), KeepsFrom w.heap.size (U.putObj (w.heap.size + 1) (.loop { R .ready none with state := .busy })) X → Ix c (pre ++ [x]) X →
        ∃ c', Ix c' (pre ++ [x]) (X.putObj (w.heap.size + 1) (.loop (R .done (some c)))) ∧ BookM w.heap.size (R .done (some c')) (X.putObj (w.heap.size + 1) (.loop (R .done (some c)))) := fun c X hX hc =>
      ⟨c, (hIx c).from.putObj _ hc (Nat.le_succ _) (leave none X hX).2.1 rfl, (leave none X hX).2.put _⟩
    intro e a3 X hp
    cases e with
    | normal =>
      obtain ⟨hX, hkp, hi3⟩ := hp
      obtain ⟨hr, hbX⟩ := leave none X hX
      exact ⟨_, _, hr, .inl ⟨rfl, ⟨hI.from.putObj _ hi3 (Nat.le_succ _) hbX.1 rfl, hbX.put _⟩, hKt hkp1 (hKt hkp (hput _ _ hbX _))⟩⟩
    | ret => exact ⟨_, _, (leave (some .ret) X hp.1).1, .inr ⟨rfl, jumps .ret X hp.1 hp.2⟩⟩
    | exit id => exact ⟨_, _, (leave (some (.exit id)) X hp.1).1, .inr ⟨rfl, jumps (.exit id) X hp.1 hp.2⟩⟩
    | goto t => exact ⟨_, _, (leave (some (.goto t)) X hp.1).1, .inr ⟨rfl, jumps (.goto t) X hp.1 hp.2⟩⟩
    | panic ch => exact hp.elim
    | outgrown => exact hp.elim
  · rintro e X ⟨⟨v, rfl⟩, ⟨xs, hS, hi, hb⟩ | ⟨pre, hSp, c, hi, hb⟩⟩
    all_goals
      have hend := run_endLoop (P := P) hb.1 (by rw [hR]; simp [recM])
      rw [hR] at hend
    · exact ⟨none, _, hend, hdone _ xs _ (Nat.le_refl _) hS (hI.from.putObj _ hi (Nat.le_succ _) hb.1 rfl) ((World.putObj_heap_other (by omega)).trans hb.2)⟩
    · exact ⟨some c, _, hend, hstop _ c pre _ (Nat.le_refl _) hSp ((hIx c).from.putObj _ hi (Nat.le_succ _) hb.1 rfl) ((World.putObj_heap_other (by omega)).trans hb.2)⟩
end
end Go.Proofs.Yteefopeclfojiaa
/- 
  Layer 16: an element's children; the walk of the iterator over them.
 -/
namespace Go.Proofs.Yteefopeclfojiaa
open Go.RowKit
attribute [local go_sem] Oper.semAt_some
/-- children from k on, ahead of e. -/
def kidF (E : Nat → Option Nat) (e : Nat) : Nat → Nat → List Nat
  | 0, _ => []
  | f + 1, k => if k < e then (match E k with
    | some j => k :: kidF E e f (j + 1)
    | none => kidF E e f (k + 1)) else []
/-- an element's children. -/
def kidsL (E : Nat → Option Nat) (i e : Nat) : List Nat := kidF E e e (i + 1)
/-- the place behind the children that came. -/
def fromK (E : Nat → Option Nat) (k : Nat) (pre : List Nat) : Nat := match pre.getLast? with
  | none => k
  | some x => (E x).getD 0 + 1
theorem fromK_snoc (E : Nat → Option Nat) (k : Nat) (pre : List Nat) (x j : Nat) (h : E x = some j) : fromK E k (pre ++ [x]) = j + 1 := by
  unfold fromK
  rw [List.getLast?_concat]
  simp [h]
theorem fromK_cons (E : Nat → Option Nat) (k y j : Nat) (pre : List Nat) (h : E y = some j) : fromK E k (y :: pre) = fromK E (j + 1) pre := by
  unfold fromK
  cases pre with
  | nil => simp [h]
  | cons z r =>
    rw [List.getLast?_cons_cons]
    cases hz : (z :: r).getLast? with
    | none => simp at hz
    | some a => rfl
theorem fromK_le {E : Nat → Option Nat} : ∀ (pre : List Nat) (k k' : Nat), k ≤ k' → fromK E k pre ≤ fromK E k' pre
  | [], k, k', h => h
  | _ :: _, _, _, _ => by unfold fromK; cases h : (_ :: _ : List Nat).getLast? <;> first | exact Nat.le_refl _ | (simp at h)
theorem kidF_pre {E : Nat → Option Nat} {e : Nat} (hlt : ∀ p j, E p = some j → p < j) : ∀ (f k : Nat) (pre : List Nat) (x : Nat), (pre ++ [x]) <+: kidF E e f k → fromK E k pre ≤ x ∧ k ≤ x ∧ x < e ∧ ∃ j, E x = some j
  | 0, k, pre, x, h => by have := h.length_le; simp [kidF] at this
  | f + 1, k, pre, x, h => by
    rw [kidF] at h
    split at h
    · rename_i hk
      split at h
      · rename_i j hj
        have hkj := hlt k j hj
        cases pre with
        | nil =>
          obtain ⟨t, ht⟩ := h
          injection ht with h1 h2
          subst h1
          exact ⟨Nat.le_refl _, Nat.le_refl _, hk, j, hj⟩
        | cons y pre =>
          rw [List.cons_append, List.cons_prefix_cons] at h
          obtain ⟨rfl, h⟩ := h
          obtain ⟨h1, h2, h3, h4⟩ := kidF_pre hlt f (j + 1) pre x h
          exact ⟨by rw [fromK_cons E y y j pre hj]; exact h1, by omega, h3, h4⟩
      · obtain ⟨h1, h2, h3, h4⟩ := kidF_pre hlt f (k + 1) pre x h
        exact ⟨Nat.le_trans (fromK_le pre k (k + 1) (Nat.le_succ _)) h1, by omega, h3, h4⟩
    · have := h.length_le
      simp at this
theorem kidF_end (E : Nat → Option Nat) (e f k : Nat) (h : e ≤ k) : kidF E e f k = [] := by
  cases f with
  | zero => rfl
  | succ f => rw [kidF, if_neg (by omega)]
theorem kidF_len {E : Nat → Option Nat} {e : Nat} (hlt : ∀ p j, E p = some j → p < j) : ∀ (f k : Nat), (kidF E e f k).length ≤ e - k
  | 0, _ => Nat.zero_le _
  | f + 1, k => by
    rw [kidF]
    split
    · split
      · rename_i j hj
        have := hlt k j hj
        have := kidF_len (e := e) hlt f (j + 1)
        rw [List.length_cons]
        omega
      · have := kidF_len (e := e) hlt f (k + 1)
        omega
    · exact Nat.zero_le _
/-- the last child ends ahead of the element's end. -/
theorem kidF_last {E : Nat → Option Nat} {e : Nat} (hlt : ∀ p j, E p = some j → p < j) (hin : ∀ p j, p < e → E p = some j → j < e) : ∀ (f k : Nat), k ≤ e → fromK E k (kidF E e f k) ≤ e
  | 0, k, h => h
  | f + 1, k, h => by
    rw [kidF]
    split
    · rename_i hk
      split
      · rename_i j hj
        have h1 := hin k j hk hj
        rw [fromK_cons E k k j _ hj]
        exact kidF_last hlt hin f (j + 1) h1
      · refine Nat.le_trans (fromK_le _ k (k + 1) (Nat.le_succ _)) ?_
        exact kidF_last hlt hin f (k + 1) hk
    · exact h
/-- what the iterator needs to find: its element's place, its tree. -/
structure TrK (Bi Bt p mb : Nat) (i : Nat) (v : Value) (g : Gr) (W : World) : Prop where
  bi : Boxed W Bi 3 (.int .i64 i)
  bt : Boxed W Bt 73 (.pointer (some ⟨p, 0, none⟩))
  tr : BlkAt W p #[v, .map (some mb), .int .i64 g.deep]
  mp : IMap W .i64 mb g.ends
/-- these blocks are kept. -/
def KeepsB (bs : List Nat) (W W' : World) : Prop := ∀ k ∈ bs, k < W.heap.size → W'.heap[k]? = W.heap[k]? ∧ W.heap.size ≤ W'.heap.size
theorem TrK.keep {Bi Bt p mb i : Nat} {v : Value} {g : Gr} {W W' : World} (h : TrK Bi Bt p mb i v g W) (hk : KeepsB [Bi, Bt, p, mb] W W') : TrK Bi Bt p mb i v g W' := by
  obtain ⟨h1, h2, h3, h4⟩ := h
  have l1 := h1.lt
  have l2 := h2.lt
  have l3 := h3.lt
  have l4 := h4.lt
  obtain ⟨t, h3⟩ := h3
  obtain ⟨es, c, h4, h5⟩ := h4
  exact ⟨((hk Bi (by simp) l1).1).trans h1, ((hk Bt (by simp) l2).1).trans h2, ⟨t, ((hk p (by simp) l3).1).trans h3⟩, es, c, ((hk mb (by simp) l4).1).trans h4, h5⟩
theorem KeepsB.trans {bs : List Nat} {A B C : World} (h : KeepsB bs A B) (k : KeepsB bs B C) : KeepsB bs A C := fun b hb hl => by
  obtain ⟨h1, h2⟩ := h b hb hl
  obtain ⟨h3, h4⟩ := k b hb (by omega)
  exact ⟨h3.trans h1, by omega⟩
theorem KeepsB.below {bs : List Nat} {A B : World} (h : Below A.heap.size A B) : KeepsB bs A B := fun b _ hl => ⟨h.block b hl, h.size⟩
theorem KeepsB.putObj {bs : List Nat} {W : World} {B : Nat} (hbs : ∀ b ∈ bs, b < B) (l : Nat) (o' : Obj) (hl : B ≤ l) : KeepsB bs W (W.putObj l o') := fun b hb _ =>
  ⟨World.putObj_heap_other (by have := hbs b hb; omega), by simp⟩
def NoMu : Obj → Prop := fun _ => False
theorem abides_dn {β : Type} {B : Nat} {J : β → World → Prop} (h : AbidesM NoMu B J) {s : β} {W : World} (n : Nat) (hj : J s W) : J s (W.drewN n) :=
  h s W _ none hj ⟨rfl, rfl, rfl, Nat.le_refl _, fun _ _ _ => rfl⟩ (fun r e => by cases e)
theorem abides_d {β : Type} {B : Nat} {J : β → World → Prop} (h : AbidesM NoMu B J) {s : β} {W : World} (hj : J s W) : J s W.drew :=
  h s W _ none hj ⟨rfl, rfl, rfl, Nat.le_refl _, fun _ _ _ => rfl⟩ (fun r e => by cases e)
/-- 'end, is := t.ends[k]'. -/
theorem ends_look2 {W : World} {b : Nat} {g : Gr} (h : IMap W .i64 b g.ends) (i : Int) :
    (Instr.lookup 80 (.map (some b)) (.int .i64 i) true).run Try.prog W = .ok (.tuple #[endV g i, .bool (aGet g.ends i).isSome]) W :=
  (h.lookup (t := 80) Try.underlying80 Try.underlying3 (.int .i64 0) (zInt W) i).1
theorem endV_some {g : Gr} (hc : ∀ (p : Nat) (u : Value), aGet g.ends (p : Int) = some u → ∃ j : Nat, u = .int .i64 j) {k j : Nat} (h : endO g k = some j) : endV g k = .int .i64 j ∧ (aGet g.ends (k : Int)).isSome = true := by
  unfold endO at h
  unfold endV
  cases ha : aGet g.ends (k : Int) with
  | none => rw [ha] at h; cases h
  | some u =>
    obtain ⟨j', rfl⟩ := hc k u ha
    rw [ha] at h
    simp at h
    subst h
    exact ⟨rfl, rfl⟩
theorem endV_none {g : Gr} (hc : ∀ (p : Nat) (u : Value), aGet g.ends (p : Int) = some u → ∃ j : Nat, u = .int .i64 j) {k : Nat} (h : endO g k = none) : endV g k = .int .i64 0 ∧ (aGet g.ends (k : Int)).isSome = false := by
  unfold endO at h
  unfold endV
  cases ha : aGet g.ends (k : Int) with
  | none => exact ⟨rfl, rfl⟩
  | some u =>
    obtain ⟨j', rfl⟩ := hc k u ha
    rw [ha] at h
    simp at h
set_option maxRecDepth 100000 in
set_option maxHeartbeats 4000000 in
theorem kids1_in (n : Nat) (hn : 1 ≤ n) (l Bi Bt p mb i e : Nat) (v : Value) (g : Gr) (hcell : ∀ (p : Nat) (u : Value), aGet g.ends (p : Int) = some u → ∃ j : Nat, u = .int .i64 j)
    (hlt : ∀ p j, endO g p = some j → p < j ∧ j < 1000000) (hie : endO g i = some e) (J Jx : List Nat → World → Prop) (B0 : Nat) (hab : AbidesM NoMu B0 J)
    (hY : ∀ pre x W, J pre W → (pre ++ [x]) <+: kidsL (endO g) i e → pre.length < 1000000 → YieldAt Fence.wide (n - 1) Try.prog l #[.int .i64 (x : Nat)] W fun e W' =>
      (e = .returned (.bool true) ∧ J (pre ++ [x]) W' ∧ KeepsB [Bi, Bt, p, mb] W W') ∨ (e = .returned (.bool false) ∧ Jx (pre ++ [x]) W'))
    (W : World) (hT : TrK Bi Bt p mb i v g W) (h0 : J [] W) :
    CallsIn Fence.wide n Try.prog 96 #[.func (.yield l) #[] #[], .pointer (some ⟨Bi, 0, none⟩), .pointer (some ⟨Bt, 0, none⟩)] W fun e' W' => (∃ v, e' = .returned v) ∧
      (J (kidsL (endO g) i e) W' ∨ (∃ pre, pre <+: kidsL (endO g) i e ∧ Jx pre W')) := by
  refine callsIn_of_wp Try.func96 rfl trivial ?_ rfl
  simp only [Try.ntmps96, List.size_toArray, List.length_cons, List.length_nil, Nat.reduceAdd, Nat.reduceSub, Array.replicate_succ, Array.replicate_zero, List.push_toArray, List.append_toArray, List.nil_append, List.cons_append]
  obtain ⟨hie1, hie2⟩ := hlt i e hie
  have hevi := (endV_some hcell hie).1
  have c0 := hT.bi.cell
  gi_wp2_with fail
  gi_loopw [4] (fun k wr => ∃ (kn f : Nat) (done : List Nat), k = .int .i64 kn ∧ kn ≤ 1000001 ∧ e ≤ f + kn ∧ kidsL (endO g) i e = done ++ kidF (endO g) e f kn ∧ J done wr ∧ TrK Bi Bt p mb i v g wr) (fun k _ => 1000001 - (intOf k).toNat)
  case atStart => exact ⟨i + 1, e, [], by go_num, by omega, by omega, rfl, h0, hT⟩
  case round =>
    obtain ⟨kn, f, done, rfl, hk1, hef, hL, hJ, hT⟩ := hrel
    have hT1 : TrK Bi Bt p mb i v g wr.drew := ⟨hT.bi, hT.bt, hT.tr, hT.mp⟩
    have hJ1 := abides_d hab hJ
    have d0 := hT.bi.cell
    have d1 := hT.bt.cell
    have d2 : _ = some (Value.map (some mb)) := hT.tr.cell 1 rfl
    have hlk := ends_look hT.mp (i : Int)
    have hlk1 := ends_look (W := wr.drew) (g := g) hT.mp (i : Int)
    rw [hevi] at hlk hlk1
    by_cases hke : kn < e
    · have hd := decide_eq_true (show (kn : Int) < (e : Int) by omega)
      gi_wp2_with fail
      gi_region
      generalize wr.drew = w1 at hT1 hJ1 hlk1 ⊢
      clear hT hJ hlk hlk1 d0 d1 d2
      have d1 := hT1.bt.cell
      have d2 : _ = some (Value.map (some mb)) := hT1.tr.cell 1 rfl
      have hlk := ends_look2 hT1.mp (kn : Int)
      obtain ⟨f, rfl⟩ : ∃ f', f = f' + 1 := ⟨f - 1, by omega⟩
      rw [kidF, if_pos hke] at hL
      cases hE : endO g kn with
      | none =>
        obtain ⟨h1, h2⟩ := endV_none hcell hE
        rw [h1, h2] at hlk
        rw [hE] at hL
        clear hY
        gi_wp2_with fail
        go_roundw
        case rel => exact ⟨kn + 1, f, done, by go_num, by omega, by omega, hL, hJ1, hT1⟩
        case measure => simp [intOf]; omega
      | some j =>
        obtain ⟨h1, h2⟩ := endV_some hcell hE
        rw [h1, h2] at hlk
        rw [hE] at hL
        obtain ⟨hj1, hj2⟩ := hlt kn j hE
        have hL2 : kidsL (endO g) i e = (done ++ [kn]) ++ kidF (endO g) e f (j + 1) := by rw [hL]; simp
        have hdl : done.length < 1000000 := by
          have h3 := congrArg List.length hL2
          have h4 := kidF_len (e := e) (fun p j h => (hlt p j h).1) e (i + 1)
          rw [show kidF (endO g) e e (i + 1) = kidsL (endO g) i e from rfl, h3] at h4
          simp only [List.length_append, List.length_cons, List.length_nil] at h4
          omega
        have hYW := hY done kn w1 hJ1 ⟨_, hL2.symm⟩ hdl
        obtain ⟨fn, tmps, assign, body, hy, hR2⟩ := hYW
        clear hY
        gi_wp2_with fail
        refine hR2.mono ?_
        rintro e' W3 (⟨rfl, hJ3, hk3⟩ | ⟨rfl, hJx3⟩)
        · have hT3 := hT1.keep hk3
          clear hk3 hT1 hy hR2
          gi_wp2_with fail
          go_roundw
          case rel => exact ⟨j + 1, f, done ++ [kn], by go_num, by omega, by omega, hL2, hJ3, hT3⟩
          case measure => simp [intOf]; omega
        · gi_wp2_with fail
          refine bodyPost_ret (results_none rfl _ _ _) rfl ?_
          exact ⟨⟨_, rfl⟩, .inr ⟨_, ⟨_, hL2.symm⟩, hJx3⟩⟩
    · have hd := decide_eq_false (show ¬ (kn : Int) < (e : Int) by omega)
      rw [kidF_end _ _ _ _ (by omega), List.append_nil] at hL
      clear hY
      gi_wp2_with fail
      gi_region
      gi_wp2_with fail
      go_end0
      exact ⟨⟨_, rfl⟩, .inl (by rw [hL]; exact hJ1)⟩
/-- a child of the element at i. -/
theorem kids_stops (n : Nat) (hn : 1 ≤ n) (Bi Bt p mb i e : Nat) (v : Value) (g : Gr) (hcell : ∀ (p : Nat) (u : Value), aGet g.ends (p : Int) = some u → ∃ j : Nat, u = .int .i64 j)
    (hlt : ∀ p j, endO g p = some j → p < j ∧ j < 1000000) (hie : endO g i = some e) (w : World) (hT : TrK Bi Bt p mb i v g w) :
    SeqStopsP NoMu Fence.wide n Try.prog 96 #[.pointer (some ⟨Bi, 0, none⟩), .pointer (some ⟨Bt, 0, none⟩)] (fun x : Nat => #[.int .i64 (x : Nat)]) (KeepsB [Bi, Bt, p, mb]) (fun ys => ys = kidsL (endO g) i e) (fun pre => pre <+: kidsL (endO g) i e) 1000000 w := fun l J Jx W hW hJ hJx hY h0 => by
  have h := kids1_in n hn l Bi Bt p mb i e v g hcell hlt hie J Jx W.heap.size hJ hY W (hT.keep (KeepsB.below hW)) h0
  refine h.mono ?_
  rintro e' W' ⟨hv, h | h⟩
  · exact ⟨hv, .inl ⟨_, rfl, h⟩⟩
  · exact ⟨hv, .inr h⟩
theorem tree_kids_in (F : Fence) (n : Nat) (h27 : F.fn 64) (hro : F.round = none) (q : Option Addr) (i : Int) (w : World) :
    CallsIn F n Try.prog 64 #[.pointer q, .int .i64 i] w fun e w' => e = .returned (.func (.func 96) #[] #[.pointer (some ⟨w.heap.size + 1, 0, none⟩), .pointer (some ⟨w.heap.size, 0, none⟩)]) ∧ w' = (w.alloc (.cells #[.pointer q] 73)).alloc (.cells #[.int .i64 i] 3) := by
  refine callsIn_of_wp Try.func64 rfl h27 ?_ hro
  simp only [Try.ntmps64, List.size_toArray, List.length_cons, List.length_nil, Nat.reduceAdd, Nat.reduceSub, Array.replicate_succ, Array.replicate_zero, List.push_toArray, List.append_toArray, List.nil_append, List.cons_append]
  gi_wp2
  go_ret
  exact ⟨by simp, rfl⟩
end Go.Proofs.Yteefopeclfojiaa
/- 
  Layer 16: the walks of events.Kids and Own.
 -/
namespace Go.Proofs.Yteefopeclfojiaa
open Go.RowKit
attribute [local go_sem] Oper.semAt_some
/-- an append whose run is known, inside a fence. -/
theorem wpListIn_appK {F : Fence} {n : Nat} {P : Program} {w : World} {ops : Array Oper} {rest : List Oper} {o : Oper} {a : Act} {Q : Exit → Act → World → Prop}
    (hg : o.guard = none) (s x : Operand) (t tx : TypeId) (hop : o.op = Op.call { callee := Callee.builtin Builtin.append, args := #[s, x], argTypes := #[t, tx] })
    (v xv : Value) (hs : a.eval s = v) (hx : a.eval x = xv) (v' : Value) (w' : World)
    (hr : (Builtin.append_ #[t, tx] o.type #[v, xv]).run P w = .ok v' w') (hK : wpListIn F n P ops Q rest (a.put o.dst v') w') :
    wpListIn F n P ops Q (o :: rest) a w := by
  refine wpListIn_plain hg fun K hK' => ?_
  unfold Oper.wpIn
  refine ⟨?_, ?_⟩
  · simp [Oper.about, hop, resolve, Target.leads, Sem.run_pure]
  · rw [Oper.semAt_plain F _ _ (by rw [hop]; intro c hc'; cases hc')]
    simp [execOp, hop, resolve, invoke, builtin, hs, hx, hr, Result.andThen]
    exact hK' _ _ hK
theorem keepsOthers_of_rowK {W W' : World} {base : Nat} {e : TypeId} {size : Nat} {v : Value} {n : Nat} {xs : List Value} (hrow : W.ownsRow base e size v n xs) (hg : W.grownBy W' v.ownBlock) : KeepsOthers W W' := by
  refine KeepsOthers.of_grownBy hg fun j o ej hj => ?_
  rcases hrow.2 with ⟨rfl, _⟩ | ⟨g, cap, cur, rfl, _, hgb, _⟩
  · simp [Value.ownBlock] at ej
  · obtain rfl : g = j := by simpa [Value.ownBlock] using ej
    rw [hgb] at hj; cases hj; rfl
/-- an element's children; none, if there is no element there. -/
def kidsP (es : List Evt) (i : Int) : List Nat := match atP es i with
  | none => []
  | some g => kidsL (endO g) i.toNat (endN g i)
theorem atP_nest {es : List Evt} {i : Int} {g : Gr} (h : atP es i = some g) : growP es = some g ∧ Nest es (endO g) ∧ (∀ (p : Nat) (u : Value), aGet g.ends (p : Int) = some u → ∃ j : Nat, u = .int .i64 j) ∧
    ∃ p j : Nat, i = (p : Int) ∧ endO g p = some j ∧ endN g p = j ∧ p < j ∧ j < es.length := by
  obtain ⟨p, j, hp, -, ha, hpj, hj⟩ := atP_end h
  have hg : growP es = some g := by
    unfold atP at h
    split at h
    · exact h
    · cases h
  obtain ⟨h1, h2⟩ := growP_nest hg
  exact ⟨hg, h1, h2, p, j, hp, by unfold endO; rw [ha]; rfl, by unfold endN; rw [ha]; rfl, hpj, hj⟩
def natC (l : List Nat) : List Int := l.map fun k : Nat => (k : Int)
theorem natC_snoc (l : List Nat) (x : Nat) : natC (l ++ [x]) = natC l ++ [(x : Int)] := by simp [natC]
theorem ownsRow_base {w : World} {base base' : Nat} {e : TypeId} {size : Nat} {v : Value} {n : Nat} {xs : List Value} (h : w.ownsRow base e size v n xs) (hb : base' ≤ base) : w.ownsRow base' e size v n xs := by
  obtain ⟨h1, h2⟩ := h
  refine ⟨h1, ?_⟩
  rcases h2 with h2 | ⟨g, cap, cur, rfl, h3, h4⟩
  · exact .inl h2
  · exact .inr ⟨g, cap, cur, rfl, Nat.le_trans hb h3, h4⟩
/-- the variable that collects children. -/
def KidI (w : World) (base : Nat) : List Nat → World → Prop := fun pre W => (∃ v, Boxed W w.heap.size 31 v ∧ W.ownsRow base 3 1 v pre.length ((natC pre).map (Value.int .i64))) ∧ Below w.heap.size w W ∧ base ≤ W.heap.size
theorem kidI_own (w : World) (base B : Nat) (hB : w.heap.size + 1 ≤ B) : OwnM NoMu B (KidI w base) := by
  rintro pre X Y ⟨⟨v, hv, hr⟩, hb, hbs⟩ ht
  have hbl := ht.below (C := w.heap.size) (by omega) hb.size
  obtain ⟨row, hg, hrow⟩ := ht
  refine ⟨⟨v, hv.kept hg (fun e => ?_), hr.kept hg ?_⟩, hb.trans hbl, Nat.le_trans hbs hbl.size⟩
  · have := (hrow _ e.symm).1
    omega
  · cases hvb : v.ownBlock with
    | none => exact .inl rfl
    | some g =>
      refine .inr fun e => ?_
      obtain ⟨_, o, ho, hc⟩ := hrow g e.symm
      rcases hr.2 with ⟨rfl, _⟩ | ⟨g', cap, cur, rfl, _, hg', _⟩
      · simp [Value.ownBlock] at hvb
      · simp only [Value.ownBlock, Option.some_inj] at hvb
        subst hvb
        rw [hg'] at ho
        cases ho
        rcases hc with hc | hc
        · cases hc
        · exact hc
theorem collect_kid {W : World} {B0 base : Nat} {v : Value} {n : Nat} {xs : List Int} (hv : Boxed W B0 31 v) (hrow : W.ownsRow base 3 1 v n (xs.map (Value.int .i64))) (x : Int)
    (hB0 : B0 < base) (hbase : base ≤ W.heap.size) (hn : n < 1099511627776) :
    ∃ a l c w1, (Builtin.append_ #[31, 31] 31 #[v, .slice (some ⟨W.heap.size, 0, none⟩) 1 1]).run Try.prog (W.alloc (.cells #[.int .i64 x] 3)) = .ok (.slice a l c) w1 ∧ w1.cell? ⟨B0, 0, none⟩ = some v ∧ w1.frozen? ⟨B0, 0, none⟩ = false ∧
      Boxed (w1.setCell ⟨B0, 0, none⟩ (.slice a l c)) B0 31 (.slice a l c) ∧
      (w1.setCell ⟨B0, 0, none⟩ (.slice a l c)).ownsRow base 3 1 (.slice a l c) (n + 1) ((xs ++ [x]).map (Value.int .i64)) ∧
      KeepsOthers W (w1.setCell ⟨B0, 0, none⟩ (.slice a l c)) ∧ Below B0 W (w1.setCell ⟨B0, 0, none⟩ (.slice a l c)) ∧
      (∀ k, k < base → k ≠ B0 → (w1.setCell ⟨B0, 0, none⟩ (.slice a l c)).heap[k]? = W.heap[k]?) := by
  obtain ⟨v', w1, hr, ho, hg⟩ := app_int_g W base v n xs hrow x hn hbase
  obtain ⟨a, l, c, rfl⟩ := own_slice ho
  have hk : ∀ k, k < base → w1.heap[k]? = W.heap[k]? := fun k hk => (hg.block k (by simp; omega) (fun e => by have := (hrow.lt k e.symm).1; omega)).trans (Below.heap_alloc W _ k (by omega))
  have hv1 : Boxed w1 B0 31 v := (hk B0 hB0).trans hv
  refine ⟨a, l, c, w1, hr, hv1.cell, hv1.frozen, hv1.set _, ?_, ((KeepsOthers.alloc _ _).trans (keepsOthers_of_rowK (hrow.alloc _) hg)).trans (KeepsOthers.setCell _ _ _), ?_, ?_⟩
  · exact ho.kept (grownBy_setCell' w1 B0 _) (.inr (hv1.not_row (by decide) ho).symm)
  · exact (((Below.refl B0 W).alloc (by omega) _).grown hg (by simp; omega) (fun k e => by have := (hrow.lt k e).1; omega)).setCell (p := ⟨B0, 0, none⟩) (Nat.le_refl _) _
  · intro k h1 h2
    exact (Below.heap_setCell w1 ⟨B0, 0, none⟩ _ k h2).trans (hk k h1)
set_option maxRecDepth 100000 in
set_option maxHeartbeats 4000000 in
theorem events_Kids (B : Nat) (es : List Evt) (v : Value) (i : Int) (w : World) (hr : EvsR B w v es) (hB : B ≤ w.heap.size) (hn : es.length ≤ 999999) (hz : ∀ e ∈ es, e.at_.length ≤ 140737488351232) :
    Calls Try.prog 18 #[v, .int .i64 i] w fun r w' => ∃ u, r = .returned u ∧ w'.ownsRow w.heap.size 3 1 u (kidsP es i).length ((natC (kidsP es i)).map (Value.int .i64)) ∧ Below w.heap.size w w' := by
  refine (callsIn_wide (n := 5)).1 ?_
  refine callsIn_of_wp_marks Try.func18 rfl trivial ?_ rfl
  simp only [Try.ntmps18, List.size_toArray, List.length_cons, List.length_nil, Nat.reduceAdd, Nat.reduceSub, Array.replicate_succ, Array.replicate_zero, List.push_toArray, List.append_toArray, List.nil_append, List.cons_append]
  have hb1 := (Below.refl w.heap.size w).alloc (Nat.le_refl _) (.cells #[.slice none 0 0] 31)
  have bO := Boxed.new w 31 (.slice none 0 0)
  have hg := events_at B es v i _ (hr.below hb1 hB) (Nat.le_trans hB hb1.size) (by omega) hz
  have hs1 : (w.alloc (.cells #[.slice none 0 0] 31)).heap.size = w.heap.size + 1 := by simp
  unfold kidsP
  obtain ⟨R, hR⟩ : ∃ R, atP es i = R := ⟨_, rfl⟩
  rw [hR] at hg ⊢
  have hr0 := hr
  obtain ⟨avs, ⟨a, cap, rfl, -⟩, -⟩ := hr0
  obtain ⟨nn, hnn⟩ : ∃ n, es.length = n := ⟨_, rfl⟩
  rw [hnn] at hg
  have H := Lib.hid hg
  clear hg
  cases R with
  | none =>
    gi_wp2_with (refine ⟨trivial, ?_⟩; gi_at_call 63; refine (callsIn_wide.2 H.out).mono ?_; rintro e w2 ⟨rfl, hb2⟩; have bO2 : Boxed w2 _ _ _ := (hb2.block _ (by omega)).trans bO; have c2 := bO2.cell; have f2 := bO2.frozen)
    have b3 := bO2.set (.slice none 0 0)
    refine ⟨.slice none 0 0, ?_, .slice none 0 0, rfl, World.ownsRow_nil _ _ _ _, (hb1.trans (hb2.mono hb1.size)).setCell (p := ⟨w.heap.size, 0, none⟩) (Nat.le_refl _) _⟩
    have c3 := b3.cell
    simp [results, Try.f18, go_sem, c3]
  | some g =>
    obtain ⟨-, hN, hcell, p0, j, hip, hE, hEn, hpj, hj⟩ := atP_nest hR
    subst hip
    simp only [hEn, Int.toNat_natCast]
    have hlt : ∀ p j, endO g p = some j → p < j ∧ j < 1000000 := fun p j h => by
      obtain ⟨h1, h2, -⟩ := hN.lt p j h
      exact ⟨h1, by omega⟩
    clear hR hEn hN
    gi_wp2_with first
      | (refine ⟨trivial, ?_⟩; gi_at_call 63; refine (callsIn_wide.2 H.out).mono ?_; rintro e w2 ⟨p, mb, rfl, hb2, ht, hm, hp, hmb⟩; have bO2 : Boxed w2 _ _ _ := (hb2.block _ (by omega)).trans bO)
      | (refine ⟨trivial, ?_⟩; gi_at_call 64; refine (tree_kids_in Fence.wide _ trivial rfl _ _ _).mono ?_; rintro e w3 ⟨rfl, rfl⟩)
    have hT : TrK (w2.heap.size + 1) w2.heap.size p mb p0 (.slice a nn cap) g ((w2.alloc (.cells #[.pointer (some ⟨p, 0, none⟩)] 73)).alloc (.cells #[.int .i64 (p0 : Nat)] 3)) := by
      have h1 := Boxed.new (w2.alloc (.cells #[.pointer (some ⟨p, 0, none⟩)] 73)) 3 (.int .i64 (p0 : Nat))
      rw [World.size_alloc] at h1
      exact ⟨h1, (Boxed.new w2 _ _).alloc _, (ht.alloc _).alloc _, (hm.alloc _).alloc _⟩
    have hb3 : Below w.heap.size w ((w2.alloc (.cells #[.pointer (some ⟨p, 0, none⟩)] 73)).alloc (.cells #[.int .i64 (p0 : Nat)] 3)) := by
      have h2 := hb1.trans (hb2.mono hb1.size)
      exact (h2.alloc h2.size _).alloc (by rw [World.size_alloc]; have := h2.size; omega) _
    have bO3 : Boxed ((w2.alloc (.cells #[.pointer (some ⟨p, 0, none⟩)] 73)).alloc (.cells #[.int .i64 (p0 : Nat)] 3)) w.heap.size _ _ := (bO2.alloc _).alloc _
    have hs2 := hb2.size
    have hs3 : ((w2.alloc (.cells #[.pointer (some ⟨p, 0, none⟩)] 73)).alloc (.cells #[.int .i64 (p0 : Nat)] 3)).heap.size = w2.heap.size + 2 := by simp
    obtain ⟨w3, hw3⟩ : ∃ x, ((w2.alloc (.cells #[.pointer (some ⟨p, 0, none⟩)] 73)).alloc (.cells #[.int .i64 (p0 : Nat)] 3)) = x := ⟨_, rfl⟩
    rw [hw3] at hT hb3 bO3 hs3 ⊢
    have hpl := hT.tr.lt
    have hml := hT.mp.lt
    have hpl2 := ht.lt
    have hml2 := hm.lt
    clear hw3 H hb1 hb2 bO bO2 ht hm
    obtain ⟨q, hq⟩ : ∃ q, w2.heap.size = q := ⟨_, rfl⟩
    rw [hq] at hT hs3 hs2 hpl2 hml2 ⊢
    clear hq
    refine wpIn_rangeFunc_ownP NoMu rfl (by omega) (gf := 96) (lb := #[.pointer (some ⟨q + 1, 0, none⟩), .pointer (some ⟨q, 0, none⟩)]) rfl trivial (enters_of Try.func96 (by kernel_rfl) rfl)
      (kids_stops _ (by omega) (q + 1) q p mb p0 j (.slice a nn cap) g hcell hlt hE w3 hT) KeepsB.trans (fun W l o o' h1 _ _ _ => KeepsB.putObj (B := w3.heap.size) (fun b hb => by simp at hb; omega) l o' h1) (Below.refl _ _) (fun _ => rfl)
      (KidI w (q + 2)) (fun _ _ _ => False) (kidI_own w _ _ (by omega)) (fun _ _ _ _ h _ => h.elim)
      ⟨⟨_, bO3, World.ownsRow_nil _ _ _ _⟩, hb3, by omega⟩
      (fun x a' W => a' = { tmps := #[.slice a nn cap, .int .i64 (p0 : Nat), undef, undef, .pointer (some ⟨w.heap.size, 0, none⟩), .pointer (some ⟨p, 0, none⟩), .int .i64 (x : Nat), .slice a nn cap, .int .i64 (p0 : Nat), .pointer (some ⟨p, 0, none⟩), .pointer (some ⟨p, 0, none⟩), .bool true, .pointer (some ⟨p, 0, none⟩), .int .i64 (p0 : Nat), .func (.func 96) #[] #[.pointer (some ⟨q + 1, 0, none⟩), .pointer (some ⟨q, 0, none⟩)], .int .i64 (x : Nat), undef, undef, undef, undef, undef], defers := [] })
      (fun x a' _ _ _ _ h _ _ => h) ?assign ?body ?done ?stop
    case assign =>
      rintro l pre x W K hI hK
      gi_wp2
      exact hK _ _ (KeepsFrom.refl _ _) (fun k _ h => ⟨rfl, Nat.le_refl _⟩) hI rfl
    case body =>
      rintro l pre x a' W hl ⟨⟨u, hv, hrw⟩, hB', hWs⟩ rfl hsp hlen
      have c0 := hv.cell
      have f0 := hv.frozen
      obtain ⟨a1, l1, c1, w4, hrun, d1, d2, d3, d4, d5, d6, d7⟩ := collect_kid hv hrw (x : Int) (by omega) hWs (by omega)
      have HR := Lib.hid hrun
      clear hrun
      gi_wp2_with (gi_at_builtin; refine wpListIn_appK rfl _ _ _ _ rfl _ _ rfl rfl _ _ HR.out ?_)
      refine ⟨d5.from _, fun k hk hkl => ⟨d7 k (by simp at hk; omega) (by simp at hk; omega), d6.size⟩, ⟨⟨_, d3, ?_⟩, hB'.trans d6, Nat.le_trans hWs d6.size⟩⟩
      rw [natC_snoc, List.length_append]
      exact d4
    case done =>
      rintro D ys W hD rfl ⟨⟨u, hv, hrw⟩, hB', -⟩ hK
      have c0 := hv.cell
      have f0 := hv.frozen
      obtain ⟨a1, l1, c1, rfl⟩ := own_slice hrw
      have hset := hv.set (.slice a1 l1 c1)
      have hro : (W.setCell ⟨w.heap.size, 0, none⟩ (.slice a1 l1 c1)).ownsRow (q + 2) 3 1 (.slice a1 l1 c1) _ _ := ownsRow_setCell_below hrw (by show w.heap.size < q + 2; omega) _
      have HS := Lib.hid hset
      have HO := Lib.hid hro
      have HKp := Lib.hid ((KeepsOthers.setCell W ⟨w.heap.size, 0, none⟩ (.slice a1 l1 c1)).same D _ hK rfl)
      have HBl := Lib.hid (hB'.setCell (p := ⟨w.heap.size, 0, none⟩) (Nat.le_refl _) (.slice a1 l1 c1))
      clear hset hro
      gi_wp2_with fail
      have hK' := HKp.out
      refine ⟨by simp, .inl ⟨_, _, rfl, run_takeDeferred hK', ?_⟩⟩
      have hc5 := cell_kept HS.out.cell (grownBy_putObj' _ D (.deferred none)) (fun r e => by cases e; exact ⟨_, hK', rfl⟩)
      refine ⟨.slice a1 l1 c1, ?_, .slice a1 l1 c1, rfl, ownsRow_base (ownsRow_putObj HO.out _ hK' rfl) (by omega), HBl.out.trans (belowK_b (w := w) (Nat.le_refl _) _ D _ _ (by omega) hK' rfl rfl)⟩
      simp [results, Try.f18, go_sem, hc5]
    case stop =>
      rintro D c pre W hD ht h
      exact h.elim
end Go.Proofs.Yteefopeclfojiaa
/- 
  A region that draws its order, inside a fence or in a round of a range: what stands ahead of its tail only reads, or calls what leaves old blocks alone; its tail goes in the text's order.
 -/
namespace Go.Proofs.Yteefopeclfojiaa
open Go
section
variable {F : Fence} {n : Nat} {P : Program} {ops : Array Oper} {md : Region.Mode} {C : World → Prop}
def noDefer (ops : Array Oper) : Bool := ops.all fun o => match o.op with
  | .defer _ => false
  | _ => true
theorem noDefer_spec (h : noDefer ops = true) {i : Nat} {o : Oper} (ho : ops[i]? = some o) (c : _) : o.op ≠ .defer c := by
  intro e
  unfold noDefer at h
  rw [Array.all_eq_true'] at h
  have := h o (Array.mem_of_getElem? ho)
  rw [e] at this
  cases this
theorem wpIn_of_quietR {o : Oper} {a : Act} {K : Act → Prop} {K' : Act → World → Prop} {Q' : Exit → Act → World → Prop} {w : World} (hnd : ∀ c, o.op ≠ .defer c) (hw : C w) (h : ∀ a w', C w' → K a → K' a w')
    (ha : o.askedIn F P a C) (hh : o.quietIn F n P a C K) : o.wpIn F n P a w K' Q' := by
  obtain ⟨v, h1, h2⟩ := hh
  have h3 := h1 w hw
  unfold Oper.quietAtIn at h3
  unfold Oper.wpIn
  refine ⟨ha w hw, ?_⟩
  rw [Oper.semAt_plain F _ _ hnd]
  generalize (execOp a.eval o).run P w = r at *
  cases r with
  | ok x w' =>
    cases x <;> simp only [Oper.quietUponIn] at h3 <;> simp only [Oper.uponIn]
    case value u =>
      obtain ⟨e1, e2⟩ := h3
      rw [e1, e2]
      exact h _ _ hw h2
    case skip =>
      obtain ⟨e1, e2⟩ := h3
      rw [e1, ← e2]
      exact h _ _ hw h2
    case enter f args =>
      obtain ⟨e1, hd, hc⟩ := h3
      rw [e1]
      exact ⟨hd, hc.mono fun e w'' ⟨he, hw''⟩ => by subst he; exact h _ _ hw'' h2⟩
  | halt x w' => simp only [Oper.quietUponIn] at h3
theorem wpOpIn_of_qOpInR {i : Nat} {a : Act} {K : Act → Prop} {K' : Act → World → Prop} {Q' : Exit → Act → World → Prop} {w : World} (hnd : noDefer ops = true) (hC : C w) (h : ∀ a w', C w' → K a → K' a w')
    (hh : qOpIn F n P ops C i K a) : wpOpIn F n P ops Q' i K' a w := by
  unfold qOpIn at hh
  unfold wpOpIn
  split
  · rename_i ho; simp only [ho] at hh; exact h _ _ hC hh
  · rename_i o ho
    simp only [ho] at hh
    obtain ⟨ha, hh⟩ := hh
    split
    · rename_i hw; simp only [hw, if_true] at hh; exact wpIn_of_quietR (noDefer_spec hnd ho) hC h ha hh
    · rename_i hw; simp only [hw] at hh; exact ⟨ha w hC, h _ _ hC hh⟩
/-- whatever order is picked, up to the tail. -/
def wpAnyQL (F : Fence) (n : Nat) (P : Program) (md : Region.Mode) (ops : Array Oper) (C : World → Prop) (m : Nat) (L : Array Bool → Act → Prop) : Nat → Array Bool → Act → Prop
  | 0, listed, a => L listed a
  | f + 1, listed, a =>
    Region.ready md ops listed ≠ [] ∧ ∀ i ∈ Region.ready md ops listed, i < m ∧ qOpIn F n P ops C i (wpAnyQL F n P md ops C m L f (listed.setIfInBounds i true)) a
theorem wpAnyIn_of_head {m g : Nat} {L : Array Bool → Act → Prop} {Q' : Exit → Act → World → Prop} (hnd : noDefer ops = true) (hL : ∀ listed a w, C w → L listed a → wpAnyIn F n P md ops Q' g listed a w) :
    ∀ (f : Nat) (listed : Array Bool) (a : Act) (w : World), C w → wpAnyQL F n P md ops C m L f listed a → wpAnyIn F n P md ops Q' (f + g) listed a w
  | 0, listed, a, w, hC, h => by rw [Nat.zero_add]; exact hL _ _ _ hC h
  | f + 1, listed, a, w, hC, h => by
    rw [show f + 1 + g = (f + g) + 1 by omega]
    exact ⟨fun h0 => absurd h0 h.1, fun i hi => wpOpIn_of_qOpInR hnd hC (fun a' w' hw' h' => wpAnyIn_of_head hnd hL f _ a' w' hw' h') (h.2 i hi).2⟩
theorem wpAnyQL_first {m i : Nat} {oi : Oper} {v : Value} {L : Array Bool → Act → Prop} (hi : ops[i]? = some oi) (hsel : ∀ (j : Nat) (o : Oper) cs b, ops[j]? = some o → o.op ≠ .select cs b)
    (hs : Region.sinkB md ops m = true) (hc : Region.chainB md ops m = true) (hn : m < ops.size) (hin : i < m)
    (hdone : ∀ listed a, L listed a → ∀ j ∈ Region.ready md ops listed, m ≤ j) :
    ∀ (f : Nat) (listed : Array Bool) (a : Act), HeadInv md ops m listed →
      (∀ j oj, ops[j]? = some oj → j ≠ i → listed.getD j true = false → (∀ e ∈ oj.after, Region.binds md e = true → e.on ≠ i) → oi.apart ops oj = true) →
      i ∈ Region.ready md ops listed → YieldsQuiet F n P ops C oi v a →
      wpAnyQL F n P md ops C m L f (listed.setIfInBounds i true) (a.put oi.dst v) → wpAnyQL F n P md ops C m L (f + 1) listed a := by
  intro f
  induction f with
  | zero =>
    intro listed a inv _ hr hy H
    have hun := (mem_ready.1 hr).1
    refine ⟨fun h => (by rw [h] at hr; cases hr), fun j hj => ?_⟩
    have hjn : j < m := by
      rcases Nat.lt_or_ge j m with h | h
      · exact h
      · exact absurd hj (tail_waits hs hc hn inv _ i rfl hin hun j h)
    refine ⟨hjn, ?_⟩
    by_cases hji : j = i
    · subst hji; exact hy.qOpIn hi H
    · have := hdone _ _ H j (ready_mono hj hji)
      omega
  | succ f ih =>
    intro listed a inv hfree hr hy H
    have hun := (mem_ready.1 hr).1
    refine ⟨fun h => (by rw [h] at hr; cases hr), fun j hj => ?_⟩
    have hjn : j < m := by
      rcases Nat.lt_or_ge j m with h | h
      · exact h
      · exact absurd hj (tail_waits hs hc hn inv _ i rfl hin hun j h)
    refine ⟨hjn, ?_⟩
    by_cases hji : j = i
    · subst hji; exact hy.qOpIn hi H
    · have h1 := (H.2 j (ready_mono hj hji)).2
      obtain ⟨hjun, oj, hoj, hall⟩ := mem_ready.1 hj
      have hnot : ∀ e ∈ oj.after, Region.binds md e = true → e.on ≠ i := fun e he hb heq => by
        have h1 := hall e he hb
        rw [heq, getD_both hun] at h1
        cases h1
      have h2 := qOpIn_put hoj (hfree j oj hoj hji hjun hnot) (fun cs b => hsel i oi cs b hi) (fun cs b => hsel j oj cs b hoj) hy h1
      have hfree' : ∀ k ok, ops[k]? = some ok → k ≠ i → (listed.setIfInBounds j true).getD k true = false →
          (∀ e ∈ ok.after, Region.binds md e = true → e.on ≠ i) → oi.apart ops ok = true := fun k ok hk hki hun hno => by
        refine hfree k ok hk hki ?_ hno
        by_cases hjk : j = k
        · subst hjk; exact hjun
        · rw [getD_set_ne true hjk] at hun; exact hun
      refine qOpIn_mono (fun a' h3 => ih (listed.setIfInBounds j true) a' (inv.set hj hjn) hfree' (ready_mono hr (Ne.symm hji)) h3.1 ?_) h2
      rw [Array.setIfInBounds_comm _ _ hji]
      exact h3.2
theorem wpAnyIn_of_seq {Q' : Exit → Act → World → Prop} : ∀ (l : List Oper) (k : Nat) (listed : Array Bool) (a : Act) (w : World), (∀ j, l[j]? = ops[k + j]?) →
    Region.seqB md ops l.length k listed = true → wpListIn F n P ops Q' l a w → wpAnyIn F n P md ops Q' l.length listed a w
  | [], _, _, _, _, _, hB, h => ⟨by simpa [Region.seqB] using hB, h⟩
  | o :: l, k, listed, a, w, hl, hB, h => by
    have h0 : ops[k]? = some o := by simpa using (hl 0).symm
    simp only [List.length_cons, Region.seqB, Bool.and_eq_true, decide_eq_true_eq] at hB
    refine ⟨fun h1 => (by rw [hB.1] at h1; cases h1), fun i hi => ?_⟩
    rw [hB.1] at hi
    have hik : i = k := by simpa using hi
    subst hik
    have hw : wpOpIn F n P ops Q' i (wpListIn F n P ops Q' l) a w := by unfold wpOpIn; simp only [h0]; exact h
    exact wpOpIn_mono (fun a' w' h' => wpAnyIn_of_seq l (i + 1) _ a' w' (fun j => by have := hl (j + 1); simpa [Nat.add_assoc, Nat.add_comm 1 j] using this) hB.2 h') hw
theorem wpAnyQL_lex {m g : Nat} {Lq : Act → Prop} (hsel : Region.noSelect ops = true) (hs : Region.sinkB md ops m = true) (hc : Region.chainB md ops m = true) (hn : m < ops.size) :
    ∀ (l : List Oper) (k : Nat) (listed : Array Bool) (a : Act), (∀ j, j < l.length → l[j]? = ops[k + j]?) → k + l.length = m → HeadInv md ops m listed →
    Region.lexHead md ops g l.length k listed = true → wpQuietIn F n P ops C Lq l a →
    wpAnyQL F n P md ops C m (fun listed' a' => Region.seqB md ops g m listed' = true ∧ Lq a') l.length listed a
  | [], k, listed, a, _, hk, _, hB, h => by
    have : k = m := by simpa using hk
    subst this
    exact ⟨by simpa [Region.lexHead] using hB, h⟩
  | o :: l, k, listed, a, hl, hk, inv, hB, h => by
    have h0 : ops[k]? = some o := by simpa using (hl 0 (by simp)).symm
    simp only [List.length_cons, Region.lexHead, Bool.and_eq_true] at hB
    obtain ⟨⟨hr, hf⟩, hB'⟩ := hB
    have hkn : k < m := by simp only [List.length_cons] at hk; omega
    have hr' : k ∈ Region.ready md ops listed := by simpa using hr
    have hst : qOpIn F n P ops C k (wpQuietIn F n P ops C Lq l) a := by unfold qOpIn; simp only [h0]; exact h
    obtain ⟨v, hy, hK⟩ := yieldsQuiet_of_qOpIn h0 hst
    exact wpAnyQL_first h0 (Region.noSelect_spec hsel) hs hc hn hkn (fun listed' a' hL => seqB_ready hL.1) l.length listed a inv (Region.free_spec h0 hf) hr' hy
      (wpAnyQL_lex hsel hs hc hn l (k + 1) _ _ (fun j hj => by have := hl (j + 1) (by simp; omega); simpa [Nat.add_assoc, Nat.add_comm 1 j] using this) (by simp only [List.length_cons] at hk; omega) (inv.set hr' hkn) hB' hK)
theorem askedR {o : Oper} {a : Act} (h : ∀ f, F.fn f) : o.askedIn F P a C := fun _ _ f _ => h f
/-- the head walked once, in every world of the class; then the tail. -/
theorem wpIn_region_quiet_tail {id : Nat} {Q : Exit → Act → World → Prop} {a : Act} {w : World} {l : List Oper} (m : Nat) (hm : P.follows .mixedOrders = true) (hnd : noDefer l.toArray = true) (hB : Region.lexTailB .any l.toArray m = true) (hC : C { w with drawn := w.drawn + 1 })
    (h : wpQuietIn F n P l.toArray C (fun a' => ∀ w', C w' → wpListIn F n P l.toArray Q (l.drop m) a' w') (l.take m) a) : (Code.region id l.toArray true).wpIn F n P Q a w := by
  simp only [Region.lexTailB, Bool.and_eq_true, decide_eq_true_eq] at hB
  obtain ⟨⟨⟨⟨hsel, hn⟩, hs⟩, hc⟩, hlex⟩ := hB
  have hn' : m < l.length := by simpa using hn
  have htl : (l.take m).length = m := by simp; omega
  have hdl : (l.drop m).length = l.toArray.size - m := by simp
  have inv0 : HeadInv .any l.toArray m (Array.replicate l.toArray.size false) :=
    ⟨by simp, fun j oj _ hl => (by rw [getD_replicate_false] at hl; cases hl), fun t _ ht => getD_in (by simpa using ht) (getD_replicate_false _ _)⟩
  have H := wpAnyQL_lex (F := F) (n := n) (P := P) (C := C) (md := .any) (g := l.toArray.size - m) hsel hs hc hn (l.take m) 0 _ a (fun j hj => by
    have hj' : j < m := by rw [htl] at hj; exact hj
    simp [hj']) (by simpa using htl) inv0 (by rw [htl]; exact hlex) h
  refine wpIn_region_any hm ?_
  have := wpAnyIn_of_head (Q' := Q) (g := l.toArray.size - m) hnd (fun listed a' w' hw' hL => by
    have := wpAnyIn_of_seq (F := F) (n := n) (P := P) (md := .any) (Q' := Q) (l.drop m) m listed a' w' (fun j => by simp [List.getElem?_drop]) (by rw [hdl]; exact hL.1) (hL.2 w' hw')
    rwa [hdl] at this) _ _ _ _ hC H
  rw [htl, show m + (l.toArray.size - m) = l.toArray.size by omega] at this
  exact this
/-- .. at the class 'old blocks as they were'. -/
theorem wpIn_region_below_tail {id : Nat} {Q : Exit → Act → World → Prop} {a : Act} {w : World} {l : List Oper} (m : Nat) (hm : P.follows .mixedOrders = true) (hnd : noDefer l.toArray = true) (hB : Region.lexTailB .any l.toArray m = true)
    (h : wpQuietIn F n P l.toArray (fun w' => ∃ p : Regrown, w' = Go.Sort.grow (redrawn w p.d) p.os) (fun a' => ∀ w', (∃ p : Regrown, w' = Go.Sort.grow (redrawn w p.d) p.os) → wpListIn F n P l.toArray Q (l.drop m) a' w') (l.take m) a) : (Code.region id l.toArray true).wpIn F n P Q a w :=
  wpIn_region_quiet_tail (C := fun w' => ∃ p : Regrown, w' = Go.Sort.grow (redrawn w p.d) p.os) m hm hnd hB ⟨⟨w.drawn + 1, #[]⟩, by rw [Go.Sort.grow_empty]; rfl⟩ h
end
end Go.Proofs.Yteefopeclfojiaa
/- 
  Layer 16: the walk of events.Own.
 -/
namespace Go.Proofs.Yteefopeclfojiaa
open Go.RowKit Go.Sort
attribute [local go_sem] Oper.semAt_some
/-- the texts of events from a up to b. -/
def segL (es : List Evt) (a b : Nat) : List Int := txsL ((es.drop a).take (b - a))
/-- .. between children. -/
def ownL (es : List Evt) (E : Nat → Option Nat) : Nat → List Nat → List Int
  | _, [] => []
  | k, x :: r => segL es k x ++ ownL es E ((E x).getD 0 + 1) r
/-- an element's own text. -/
def ownP (es : List Evt) (i : Int) : List Int := match atP es i with
  | none => []
  | some g => ownL es (endO g) (i.toNat + 1) (kidsP es i) ++ segL es (fromK (endO g) (i.toNat + 1) (kidsP es i)) (endN g i)
theorem fromK_cons' (E : Nat → Option Nat) (k y : Nat) (pre : List Nat) : fromK E k (y :: pre) = fromK E ((E y).getD 0 + 1) pre := by
  unfold fromK
  cases pre with
  | nil => rfl
  | cons z r =>
    rw [List.getLast?_cons_cons]
    cases hz : (z :: r).getLast? with
    | none => simp at hz
    | some a => rfl
theorem ownL_snoc (es : List Evt) (E : Nat → Option Nat) : ∀ (pre : List Nat) (k x : Nat), ownL es E k (pre ++ [x]) = ownL es E k pre ++ segL es (fromK E k pre) x
  | [], k, x => by simp [ownL, fromK]
  | y :: r, k, x => by
    rw [List.cons_append, ownL, ownL, ownL_snoc es E r, fromK_cons', List.append_assoc]
theorem segL_isBs (es : List Evt) (a b : Nat) : isBs (segL es a b) := txsL_isBs _
theorem ownL_isBs (es : List Evt) (E : Nat → Option Nat) : ∀ (l : List Nat) (k : Nat), isBs (ownL es E k l)
  | [], _ => fun x h => by cases h
  | y :: r, k => fun x h => by
    rw [ownL] at h
    rcases List.mem_append.1 h with h | h
    · exact segL_isBs es k y x h
    · exact ownL_isBs es E r _ x h
theorem txsL_append (a b : List Evt) : txsL (a ++ b) = txsL a ++ txsL b := by unfold txsL; rw [List.flatMap_append]
theorem segL_le (es : List Evt) (a b : Nat) : (segL es a b).length ≤ (txsL es).length := by
  have h1 := txsL_le (es.drop a) (b - a)
  have h2 : (txsL (es.drop a)).length ≤ (txsL es).length := by
    conv => rhs; rw [← List.take_append_drop a es, txsL_append, List.length_append]
    omega
  unfold segL
  omega
theorem ownL_le (es : List Evt) (E : Nat → Option Nat) : ∀ (l : List Nat) (k : Nat), (ownL es E k l).length ≤ l.length * (txsL es).length
  | [], _ => by simp [ownL]
  | y :: r, k => by
    have h1 := segL_le es k y
    have h2 := ownL_le es E r ((E y).getD 0 + 1)
    rw [ownL, List.length_append, List.length_cons, Nat.succ_mul]
    omega
theorem strOfNums_app (a b : List Int) : strOfNums a ++ strOfNums b = strOfNums (a ++ b) := by
  unfold strOfNums
  apply ByteArray.ext
  simp
/-- the last child ends ahead of its element's end. -/
theorem kidF_last2 {E : Nat → Option Nat} {e i : Nat} (hlt : ∀ p j, E p = some j → p < j) (hin : ∀ p j, p < e → i < p → E p = some j → j < e) : ∀ (f k : Nat), k ≤ e → i < k → fromK E k (kidF E e f k) ≤ e
  | 0, k, h, _ => h
  | f + 1, k, h, hi => by
    rw [kidF]
    split
    · rename_i hk
      split
      · rename_i j hj
        have h1 := hin k j hk hi hj
        have h2 := hlt k j hj
        rw [fromK_cons E k k j _ hj]
        exact kidF_last2 hlt hin f (j + 1) h1 (by omega)
      · refine Nat.le_trans (fromK_le _ k (k + 1) (Nat.le_succ _)) ?_
        exact kidF_last2 hlt hin f (k + 1) hk (by omega)
    · exact h
theorem had2 {c f j : Nat} {p q : Option Addr} (h : c = f → j = f) : (if c = f then p else q) = q ∨ j = f := by
  by_cases e : c = f
  · exact .inr (h e)
  · exact .inl (if_neg e)
theorem keepsOthers_belowQ {w w' : World} (hb : Below w.heap.size w w') : KeepsOthers w w' := ⟨hb.size, fun k _ hk _ => (hb.block k (Array.getElem?_eq_some_iff.1 hk).1).trans hk⟩
/-- what lasts within Own's loop: the place behind what was taken, what was taken. -/
structure OwnJ (v : Value) (g : Gr) (w : World) (q p mb p0 : Nat) (fv : Nat) (ov : List Int) (W : World) : Prop where
  bl : Boxed W w.heap.size 22 v
  bt : Boxed W q 73 (.pointer (some ⟨p, 0, none⟩))
  bf : Boxed W (q + 1) 3 (.int .i64 fv)
  bo : Boxed W (q + 2) 9 (.string (strOfNums ov))
  tr : TrK (q + 4) (q + 3) p mb p0 v g W
  be : Below w.heap.size w W
  sz : q + 5 ≤ W.heap.size
theorem OwnJ.turn {v : Value} {g : Gr} {w : World} {q p mb p0 fv : Nat} {ov : List Int} {W W' : World} (h : OwnJ v g w q p mb p0 fv ov W) (hk : KeepsB [w.heap.size, q, q + 1, q + 2, q + 4, q + 3, p, mb] W W') (hb : Below w.heap.size W W') : OwnJ v g w q p mb p0 fv ov W' := by
  have hs := h.sz
  have k4 : KeepsB [q + 4, q + 3, p, mb] W W' := fun k hk' => hk k (by simp at hk' ⊢; omega)
  exact ⟨((hk _ (by simp) h.bl.lt).1).trans h.bl, ((hk _ (by simp) h.bt.lt).1).trans h.bt, ((hk _ (by simp) h.bf.lt).1).trans h.bf, ((hk _ (by simp) h.bo.lt).1).trans h.bo, h.tr.keep k4, h.be.trans hb, Nat.le_trans hs hb.size⟩
theorem keeps_set {bs : List Nat} (W : World) (g i : Nat) (u : Value) (h : ∀ k ∈ bs, k ≠ g) : KeepsB bs W (W.setCell ⟨g, i, none⟩ u) := fun k hk _ =>
  ⟨heap_setCell_other W ⟨g, i, none⟩ k u (h k hk), Nat.le_of_eq (by simp)⟩
theorem OwnJ.setF {v : Value} {g : Gr} {w : World} {q p mb p0 fv : Nat} {ov : List Int} {W : World} (h : OwnJ v g w q p mb p0 fv ov W) (hq : w.heap.size < q) (hp : p < q) (hm : mb < q) (fv' : Nat) : OwnJ v g w q p mb p0 fv' ov (W.setCell ⟨q + 1, 0, none⟩ (.int .i64 fv')) :=
  ⟨h.bl.other (by omega) _, h.bt.other (by omega) _, h.bf.set _, h.bo.other (by omega) _, h.tr.keep (keeps_set W _ _ _ fun k hk => by simp at hk; omega), h.be.setCell (p := ⟨q + 1, 0, none⟩) (by show _ ≤ q + 1; omega) _, by simp; exact h.sz⟩
theorem OwnJ.setO {v : Value} {g : Gr} {w : World} {q p mb p0 fv : Nat} {ov : List Int} {W : World} (h : OwnJ v g w q p mb p0 fv ov W) (hq : w.heap.size < q) (hp : p < q) (hm : mb < q) (ov' : List Int) : OwnJ v g w q p mb p0 fv ov' (W.setCell ⟨q + 2, 0, none⟩ (.string (strOfNums ov'))) :=
  ⟨h.bl.other (by omega) _, h.bt.other (by omega) _, h.bf.other (by omega) _, h.bo.set _, h.tr.keep (keeps_set W _ _ _ fun k hk => by simp at hk; omega), h.be.setCell (p := ⟨q + 2, 0, none⟩) (by show _ ≤ q + 2; omega) _, by simp; exact h.sz⟩
def OwnI (es : List Evt) (v : Value) (g : Gr) (w : World) (q p mb p0 : Nat) (pre : List Nat) (W : World) : Prop := OwnJ v g w q p mb p0 (fromK (endO g) (p0 + 1) pre) (ownL es (endO g) (p0 + 1) pre) W
theorem ownI_own (es : List Evt) (v : Value) (g : Gr) (w : World) (q p mb p0 B : Nat) (hq : w.heap.size ≤ q) (hB : q + 5 ≤ B) (hp : p < B) (hmb : mb < B) : OwnM NoMu B (OwnI es v g w q p mb p0) := by
  intro pre X Y h ht
  have hbl := ht.below (C := w.heap.size) (by omega) h.be.size
  obtain ⟨row, hg, hrow⟩ := ht
  refine OwnJ.turn h (fun k hk hl => ⟨hg.block k hl (fun e => ?_), hg.size⟩) hbl
  have := (hrow k e.symm).1
  simp at hk
  omega
/-- texts of a part of events: 'texts(l[a:b:c])'. -/
theorem texts_part {B b off n cap : Nat} {es : List Evt} {w : World} (hr : EvsR B w (.slice (some ⟨b, off, none⟩) n cap) es) (hB : B ≤ w.heap.size) (hn : es.length ≤ 9999) (ht : (txsL es).length < 140737488355329) (f x c : Nat) (ad : Option Addr) (had : ad = some ⟨b, off + f * 5, none⟩ ∨ x = f) (hfx : f ≤ x) (hx : x ≤ es.length) (u : World) (hu : Below w.heap.size w u) :
    Calls Try.prog 65 #[.slice ad (x - f) c] u fun r w' => r = .returned (.string (strOfNums (segL es f x))) ∧ Below u.heap.size u w' := by
  have hr1 := hr.sub f (x - f) c (by omega)
  have hr2 : EvsR B w (.slice ad (x - f) c) ((es.drop f).take (x - f)) := by
    rcases had with e | e
    · rw [e]
      exact hr1
    · subst e
      rw [Nat.sub_self]
      exact ⟨[], ⟨_, c, rfl, fun i v h => by simp [evsC] at h⟩, trivial⟩
  have hl : ((es.drop f).take (x - f)).length ≤ 1000000 := by rw [List.length_take, List.length_drop]; omega
  have h2 := segL_le es f x
  exact events_texts B _ _ u (hr2.below (hu.mono hB) (Nat.le_refl _)) (Nat.le_trans hB hu.size) hl (by unfold segL at h2; omega)
set_option maxRecDepth 100000 in
set_option maxHeartbeats 8000000 in
theorem events_Own (B : Nat) (es : List Evt) (v : Value) (i : Int) (w : World) (hr : EvsR B w v es) (hB : B ≤ w.heap.size) (hn : es.length ≤ 9999) (hz : ∀ e ∈ es, e.at_.length ≤ 140737488351232) (htx : (txsL es).length < 140737488355329) (hcap : ∃ a cap, v = .slice a es.length cap ∧ es.length ≤ cap ∧ cap ≤ maxLen) :
    Calls Try.prog 22 #[v, .int .i64 i] w fun r w' => r = .returned (.string (strOfNums (ownP es i))) ∧ Below w.heap.size w w' := by
  refine (callsIn_wide (n := 5)).1 ?_
  refine callsIn_of_wp_marks Try.func22 rfl trivial ?_ rfl
  simp only [Try.ntmps22, List.size_toArray, List.length_cons, List.length_nil, Nat.reduceAdd, Nat.reduceSub, Array.replicate_succ, Array.replicate_zero, List.push_toArray, List.append_toArray, List.nil_append, List.cons_append]
  obtain ⟨a, cap, hv, hc1, hc2⟩ := hcap
  subst hv
  have hb1 := (Below.refl w.heap.size w).alloc (Nat.le_refl _) (.cells #[.slice a es.length cap] 22)
  have bL := Boxed.new w 22 (.slice a es.length cap)
  have hg := events_at B es _ i _ (hr.below hb1 hB) (Nat.le_trans hB hb1.size) (by omega) hz
  have hs1 : (w.alloc (.cells #[.slice a es.length cap] 22)).heap.size = w.heap.size + 1 := by simp
  have hkp : ∀ g, atP es i = some g → kidsP es i = kidsL (endO g) i.toNat (endN g i) := fun g h => by unfold kidsP; rw [h]
  unfold ownP
  obtain ⟨R, hR⟩ : ∃ R, atP es i = R := ⟨_, rfl⟩
  rw [hR] at hg hkp ⊢
  obtain ⟨nn, hnn⟩ : ∃ n, es.length = n := ⟨_, rfl⟩
  have HN := Lib.hid hnn
  rw [hnn] at hg hs1 bL hb1 hc1
  have H := Lib.hid hg
  clear hg
  cases R with
  | none =>
    rw [hnn]
    gi_wp2_with (refine ⟨trivial, ?_⟩; gi_at_call 63; refine (callsIn_wide.2 H.out).mono ?_; rintro e w2 ⟨rfl, hb2⟩)
    refine ⟨.string ⟨#[]⟩, ?_, rfl, hb1.trans ((hb2.alloc hb2.size _).mono hb1.size)⟩
    simp [results, Try.f22, go_sem]
  | some g =>
    obtain ⟨-, hN, hcell, p0, j, hip, hE, hEn, hpj, hj⟩ := atP_nest hR
    subst hip
    rw [hkp g rfl]
    simp only [hEn, Int.toNat_natCast]
    have hlt : ∀ p j, endO g p = some j → p < j ∧ j < 1000000 := fun p j h => by
      obtain ⟨h1, h2, -⟩ := hN.lt p j h
      exact ⟨h1, by omega⟩
    rw [hnn]
    gi_wp2_with first
      | (refine ⟨trivial, ?_⟩; gi_at_call 63; refine (callsIn_wide.2 H.out).mono ?_; rintro e w2 ⟨p, mb, rfl, hb2, ht, hm, hp, hmb⟩; have bL2 : Boxed w2 _ _ _ := (hb2.block _ (by omega)).trans bL)
      | (refine ⟨trivial, ?_⟩; gi_at_call 64; refine (tree_kids_in Fence.wide _ trivial rfl _ _ _).mono ?_; rintro e w3 ⟨rfl, rfl⟩)
    have J0 : OwnI es (.slice a nn cap) g w w2.heap.size p mb p0 [] (((((w2.alloc (.cells #[.pointer (some ⟨p, 0, none⟩)] 73)).alloc (.cells #[.int .i64 ((p0 : Int) + 1)] 3)).alloc (.cells #[.string ⟨#[]⟩] 9)).alloc (.cells #[.pointer (some ⟨p, 0, none⟩)] 73)).alloc (.cells #[.int .i64 (p0 : Nat)] 3)) := by
      have x0 := Boxed.new w2 73 (.pointer (some ⟨p, 0, none⟩))
      obtain ⟨y1, hy1⟩ : ∃ y, w2.alloc (.cells #[.pointer (some ⟨p, 0, none⟩)] 73) = y := ⟨_, rfl⟩
      have s1 : y1.heap.size = w2.heap.size + 1 := by rw [← hy1]; simp
      rw [hy1] at x0 ⊢
      have x1 := Boxed.new y1 3 (.int .i64 ((p0 : Int) + 1))
      obtain ⟨y2, hy2⟩ : ∃ y, y1.alloc (.cells #[.int .i64 ((p0 : Int) + 1)] 3) = y := ⟨_, rfl⟩
      have s2 : y2.heap.size = w2.heap.size + 2 := by rw [← hy2]; simp; omega
      have hy2b : Below y1.heap.size y1 y2 := by rw [← hy2]; exact (Below.refl _ _).alloc (Nat.le_refl _) _
      rw [hy2] at x1 ⊢
      have x2 := Boxed.new y2 9 (.string ⟨#[]⟩)
      obtain ⟨y3, hy3⟩ : ∃ y, y2.alloc (.cells #[.string ⟨#[]⟩] 9) = y := ⟨_, rfl⟩
      have s3 : y3.heap.size = w2.heap.size + 3 := by rw [← hy3]; simp; omega
      have hy3b : Below y2.heap.size y2 y3 := by rw [← hy3]; exact (Below.refl _ _).alloc (Nat.le_refl _) _
      rw [hy3] at x2 ⊢
      have x3 := Boxed.new y3 73 (.pointer (some ⟨p, 0, none⟩))
      obtain ⟨y4, hy4⟩ : ∃ y, y3.alloc (.cells #[.pointer (some ⟨p, 0, none⟩)] 73) = y := ⟨_, rfl⟩
      have s4 : y4.heap.size = w2.heap.size + 4 := by rw [← hy4]; simp; omega
      have hy4b : Below y3.heap.size y3 y4 := by rw [← hy4]; exact (Below.refl _ _).alloc (Nat.le_refl _) _
      rw [hy4] at x3 ⊢
      have x4 := Boxed.new y4 3 (.int .i64 (p0 : Nat))
      obtain ⟨y5, hy5⟩ : ∃ y, y4.alloc (.cells #[.int .i64 (p0 : Nat)] 3) = y := ⟨_, rfl⟩
      have s5 : y5.heap.size = w2.heap.size + 5 := by rw [← hy5]; simp; omega
      have hy5b : Below y4.heap.size y4 y5 := by rw [← hy5]; exact (Below.refl _ _).alloc (Nat.le_refl _) _
      rw [hy5] at x4 ⊢
      have hy1b : Below w2.heap.size w2 y1 := by rw [← hy1]; exact (Below.refl _ _).alloc (Nat.le_refl _) _
      have b25 := ((((hy1b.trans (hy2b.mono (by omega))).trans (hy3b.mono (by omega))).trans (hy4b.mono (by omega))).trans (hy5b.mono (by omega)))
      have b15 := (((hy2b.trans (hy3b.mono (by omega))).trans (hy4b.mono (by omega))).trans (hy5b.mono (by omega)))
      have b35 := ((hy3b.trans (hy4b.mono (by omega))).trans (hy5b.mono (by omega)))
      have b45 := hy4b.trans (hy5b.mono (by omega))
      rw [s1] at x1
      rw [s2] at x2
      rw [s3] at x3
      rw [s4] at x4
      have hl2 := hb2.size
      exact ⟨(b25.block _ bL2.lt).trans bL2, (b15.block _ (by omega)).trans x0, (b35.block _ (by omega)).trans x1, (b45.block _ (by omega)).trans x2, ⟨x4, (hy5b.block _ (by omega)).trans x3, ht.below b25 ht.lt, hm.below b25 (Nat.le_refl _)⟩, (hb1.trans (hb2.mono hb1.size)).trans (b25.mono (by omega)), by omega⟩
    have hs3 : (((((w2.alloc (.cells #[.pointer (some ⟨p, 0, none⟩)] 73)).alloc (.cells #[.int .i64 ((p0 : Int) + 1)] 3)).alloc (.cells #[.string ⟨#[]⟩] 9)).alloc (.cells #[.pointer (some ⟨p, 0, none⟩)] 73)).alloc (.cells #[.int .i64 (p0 : Nat)] 3)).heap.size = w2.heap.size + 5 := by simp
    obtain ⟨w3, hw3⟩ : ∃ x, (((((w2.alloc (.cells #[.pointer (some ⟨p, 0, none⟩)] 73)).alloc (.cells #[.int .i64 ((p0 : Int) + 1)] 3)).alloc (.cells #[.string ⟨#[]⟩] 9)).alloc (.cells #[.pointer (some ⟨p, 0, none⟩)] 73)).alloc (.cells #[.int .i64 (p0 : Nat)] 3)) = x := ⟨_, rfl⟩
    have hs2 := hb2.size
    have hpl2 := ht.lt
    have hml2 := hm.lt
    rw [hw3] at J0 hs3 ⊢
    clear hw3 H hb1 hb2 bL bL2 ht hm
    obtain ⟨q, hq⟩ : ∃ q, w2.heap.size = q := ⟨_, rfl⟩
    rw [hq] at J0 hs3 hs2 hpl2 hml2 ⊢
    clear hq
    have hwq : w.heap.size < q := by omega
    have hwp : w.heap.size < p ∧ w.heap.size < mb := by omega
    clear hp hmb hs2 hs1
    obtain ⟨x0, hx0⟩ : ∃ x, es[p0]? = some x := ⟨_, List.getElem?_eq_getElem (by omega)⟩
    obtain ⟨b, off, cap', av, hv', hbB, -⟩ := hr.get (Below.refl B w) (Nat.le_refl _) p0 x0 hx0
    rw [hnn] at hv'
    injection hv' with e1 e2 e3
    subst e1
    have hlt' : ∀ p j, endO g p = some j → p < j := fun p j h => (hlt p j h).1
    have hin : ∀ p' j', p' < j → p0 < p' → endO g p' = some j' → j' < j := fun p' j' h1 h2 h3 => by
      rcases hN.lam p0 j p' j' hE h3 h2 with h4 | h4 <;> omega
    have hlast : fromK (endO g) (p0 + 1) (kidsL (endO g) p0 j) ≤ j := kidF_last2 hlt' hin j (p0 + 1) (by omega) (by omega)
    have hjn : j ≤ es.length := by omega
    have HTX := Lib.hid (fun (f x c : Nat) (ad : Option Addr) (h0 : ad = some ⟨b, off + f * 5, none⟩ ∨ x = f) (h1 : f ≤ x) (h2 : x ≤ es.length) (u : World) (hu : Below w.heap.size w u) => texts_part (cap := cap) (B := B) (off := off) (b := b) (n := es.length) (es := es) (w := w) hr hB hn htx f x c ad h0 h1 h2 u hu)
    have HKL : (kidsL (endO g) p0 j).length ≤ 10000 := by
      have h1 := kidF_len (e := j) hlt' j (p0 + 1)
      unfold kidsL
      omega
    have hmulT : 10000 * (txsL es).length ≤ 10000 * 140737488355328 := Nat.mul_le_mul (Nat.le_refl _) (by omega)
    clear hr hx0 hz hN hR hkp e2 e3
    refine wpIn_rangeFunc_ownP NoMu rfl (by omega) (gf := 96) (lb := #[.pointer (some ⟨q + 4, 0, none⟩), .pointer (some ⟨q + 3, 0, none⟩)]) rfl trivial (enters_of Try.func96 (by kernel_rfl) rfl)
      (kids_stops _ (by omega) (q + 4) (q + 3) p mb p0 j (.slice (some ⟨b, off, none⟩) nn cap) g hcell hlt hE w3 J0.tr) KeepsB.trans (fun W l o o' h1 _ _ _ => KeepsB.putObj (B := w3.heap.size) (fun b hb => by simp at hb; omega) l o' h1) (Below.refl _ _) (fun _ => rfl)
      (OwnI es (.slice (some ⟨b, off, none⟩) nn cap) g w q p mb p0) (fun _ _ _ => False) (ownI_own es _ g w q p mb p0 _ (by omega) (by omega) (by omega) (by omega)) (fun _ _ _ _ h _ => h.elim)
      J0
      (fun x a' W => a' = { tmps := #[.slice (some ⟨b, off, none⟩) nn cap, .int .i64 (p0 : Nat), .pointer (some ⟨w.heap.size, 0, none⟩), undef, .string ⟨#[]⟩, .pointer (some ⟨q, 0, none⟩), .pointer (some ⟨q + 1, 0, none⟩), .pointer (some ⟨q + 2, 0, none⟩), .int .i64 (x : Nat), .slice (some ⟨b, off, none⟩) nn cap, .int .i64 (p0 : Nat), .pointer (some ⟨p, 0, none⟩), .pointer (some ⟨p, 0, none⟩), .bool false, .int .i64 (p0 : Nat), .int .i64 ((p0 : Int) + 1), .pointer (some ⟨p, 0, none⟩), .int .i64 (p0 : Nat), .func (.func 96) #[] #[.pointer (some ⟨q + 4, 0, none⟩), .pointer (some ⟨q + 3, 0, none⟩)], .int .i64 (x : Nat), undef, undef, undef, undef, undef, undef, undef, undef, undef, undef, undef, undef, undef, undef, undef, undef, undef, undef, undef, undef, undef, undef, undef, undef, undef, undef, undef], defers := [] })
      (fun x a' _ _ _ _ h _ _ => h) ?assign ?body ?done ?stop
    case assign =>
      rintro l pre x W K hI hK
      gi_wp2
      exact hK _ _ (KeepsFrom.refl _ _) (fun k _ h => ⟨rfl, Nat.le_refl _⟩) hI rfl
    case body =>
      rintro l pre x a' W hl hI rfl hsp hlen
      obtain ⟨h1, h2, h3, jx, h4⟩ := kidF_pre hlt' _ _ _ _ hsp
      unfold OwnI at hI
      obtain ⟨fv, hfv⟩ : ∃ f, fromK (endO g) (p0 + 1) pre = f := ⟨_, rfl⟩
      obtain ⟨ov, hov⟩ : ∃ o, ownL es (endO g) (p0 + 1) pre = o := ⟨_, rfl⟩
      have hfs := fromK_snoc (endO g) (p0 + 1) pre x jx h4
      have hos := ownL_snoc es (endO g) pre (p0 + 1) x
      have hol := ownL_le es (endO g) pre (p0 + 1)
      have hsl := segL_le es fv x
      rw [hfv] at h1 hos hI
      rw [hov] at hos hI hol
      have hpl : pre.length ≤ 10000 := by
        have h9 := hsp.length_le
        rw [List.length_append, List.length_singleton] at h9
        omega
      have hol2 : ov.length ≤ 10000 * (txsL es).length := Nat.le_trans hol (Nat.mul_le_mul hpl (Nat.le_refl _))
      obtain ⟨sg, hsg⟩ : ∃ s, segL es fv x = s := ⟨_, rfl⟩
      have HT := Lib.hid (fun (u : World) (hu : Below w.heap.size w u) => HTX.out fv x (x - fv) (if x = fv then some ⟨b, off, none⟩ else some ⟨b, off + fv * 5, none⟩) (by by_cases e : x = fv <;> simp [e]) h1 (by omega) u hu)
      rw [hsg] at HT hos hsl
      have hbdr : Below w.heap.size w W.drew := hI.be.drew
      have cO := hI.bo.cell
      have cL := hI.bl.cell
      have cF := hI.bf.cell
      have hq1 : (fv : Int) ≤ (x : Int) := by omega
      have hq2 : (x : Int) ≤ (cap : Int) := by omega
      have hq3 : (0 : Int) ≤ (fv : Int) := by omega
      have hq4 : ¬ (9223372036854775807 : Nat) < (strOfNums ov).size + (strOfNums sg).size := by rw [strOfNums_size, strOfNums_size]; omega
      have HI := Lib.hid hI
      clear hI hsg hol hol2 hsl hmulT HTX hlast hin
      dsimp only
      gi_wp2_with fail
      by_cases hxe : x = fv
      all_goals
        first | (rw [if_pos hxe] at HT; subst hxe; rw [Nat.sub_self] at HT) | rw [if_neg hxe] at HT
        have k0 := cell_regrown cO
        have k1 := cell_regrown cL
        have k2 := cell_regrown cF
        have cT := fun (d : Nat) (os : Array Obj) => CallsIn.regrown_of (CallsIn.inRound l (callsIn_wide (n := 2).2 (HT.out _ ((below_regrown W d os).mono HI.out.be.size |> HI.out.be.trans))))
        refine wpIn_region_below_tail 8 (by kernel_rfl) (by kernel_rfl) (by kernel_rfl) ?_
        simp only [List.take_succ_cons, List.take_zero, List.drop_succ_cons, List.drop_zero]
        repeat (refine wpQuietIn_step (askedR (fun _ => trivial)) (fun K hK => ?_); go_simp; first | (refine hK _ ?_; clear hK K) | (apply Exists.intro; refine ⟨fun _ => ?_, hK _ ?_⟩; (first | exact cT _ _ | exact ⟨by decide, cT _ _⟩); clear hK K))
      all_goals
        clear k0 k1 k2 cT
        refine wpQuietIn_nil ?_
        rintro w4 ⟨⟨dq, osq⟩, hw4⟩
        have hb4 : Below W.heap.size W w4 := by rw [hw4]; exact below_regrown W dq osq
        clear hw4
        have J4 := HI.out.turn (KeepsB.below hb4) (hb4.mono HI.out.be.size)
        have c4 := J4.bo.cell
        have f4 := J4.bo.frozen
        have J5 := J4.setO hwq hpl2 hml2 (ov ++ sg)
        rw [strOfNums_app]
        have KO5 := (keepsOthers_belowQ hb4).trans (KeepsOthers.setCell w4 ⟨q + 2, 0, none⟩ (.string (strOfNums (ov ++ sg))))
        have KB5 : KeepsB [q + 4, q + 3, p, mb] W (w4.setCell ⟨q + 2, 0, none⟩ (.string (strOfNums (ov ++ sg)))) := (KeepsB.below hb4).trans (keeps_set w4 _ _ _ fun k hk => by simp at hk; omega)
        have d0 := J4.bt.cell
        have d1 : _ = some (Value.map (some mb)) := J4.tr.tr.cell 1 rfl
        have d2 := J4.bf.cell
        have d3 := J4.bf.frozen
        have hlk := ends_look J5.tr.mp (x : Int)
        rw [(endV_some hcell h4).1] at hlk
        have J6 := J5.setF hwq hpl2 hml2 (jx + 1)
        have hjx := (hlt x jx h4).2
        have KO6 := KO5.trans (KeepsOthers.setCell _ ⟨q + 1, 0, none⟩ (.int .i64 ((jx + 1 : Nat) : Int)))
        have KB6 : KeepsB [q + 4, q + 3, p, mb] W _ := KB5.trans (keeps_set _ (q + 1) 0 (.int .i64 ((jx + 1 : Nat) : Int)) fun k hk => by simp at hk; omega)
        have HJ := Lib.hid (And.intro J6 (And.intro KO6 KB6))
        clear J5 J6 KO5 KO6 KB5 KB6 HI HT cO cL cF J4
        gi_wp2_with fail
        obtain ⟨J6, KO6, KB6⟩ := HJ.out
        refine ⟨KO6.from _, KB6, ?_⟩
        unfold OwnI
        rw [hfs, hos]
        exact J6
    case done =>
      rintro D ys W hD rfl hI hK
      unfold OwnI at hI
      have hol := ownL_le es (endO g) (kidsL (endO g) p0 j) (p0 + 1)
      obtain ⟨fv, hfv⟩ : ∃ f, fromK (endO g) (p0 + 1) (kidsL (endO g) p0 j) = f := ⟨_, rfl⟩
      obtain ⟨ov, hov⟩ : ∃ o, ownL es (endO g) (p0 + 1) (kidsL (endO g) p0 j) = o := ⟨_, rfl⟩
      rw [hfv, hov] at hI
      rw [hfv] at hlast
      rw [hov] at hol
      have hsl := segL_le es fv j
      have hol2 : ov.length ≤ 10000 * (txsL es).length := Nat.le_trans hol (Nat.mul_le_mul HKL (Nat.le_refl _))
      obtain ⟨sg, hsg⟩ : ∃ s, segL es fv j = s := ⟨_, rfl⟩
      have HT := Lib.hid (fun (u : World) (hu : Below w.heap.size w u) => HTX.out fv j (cap - fv) (if cap = fv then some ⟨b, off, none⟩ else some ⟨b, off + fv * 5, none⟩) (had2 (by omega)) hlast hjn u hu)
      rw [hsg] at HT hsl
      have HF := Lib.hid (show ownL es (endO g) (p0 + 1) (kidsL (endO g) p0 j) ++ segL es (fromK (endO g) (p0 + 1) (kidsL (endO g) p0 j)) j = ov ++ sg by rw [hfv, hov, hsg])
      have hq1 : (fv : Int) ≤ (j : Int) := by omega
      have hq2 : (j : Int) ≤ (cap : Int) := by omega
      have hq3 : (0 : Int) ≤ (fv : Int) := by omega
      have hq4 : ¬ (9223372036854775807 : Nat) < (strOfNums ov).size + (strOfNums sg).size := by rw [strOfNums_size, strOfNums_size]; omega
      have hdr := hI.be.drew
      have HI := Lib.hid hI
      clear hsg hol hol2 hsl hmulT HTX hin hfv hov
      gi_wp2_with fail
      have k0 := cell_regrown hI.bo.cell
      have k1 := cell_regrown hI.bl.cell
      have k2 := cell_regrown hI.bf.cell
      have k3 := cell_regrown hI.bt.cell
      have k4 := cell_regrown (show W.cell? ⟨p, 1, none⟩ = some (Value.map (some mb)) from hI.tr.tr.cell 1 rfl)
      have hlk := fun (d : Nat) (os : Array Obj) => ends_look (hI.tr.mp.below (below_regrown W d os) (Nat.le_refl _)) (p0 : Int)
      rw [(endV_some hcell hE).1] at hlk
      clear hI
      by_cases hxe : cap = fv
      all_goals
        first | (rw [if_pos hxe] at HT; obtain rfl : j = fv := by omega
                 subst hxe; rw [Nat.sub_self] at HT) | rw [if_neg hxe] at HT
        have cT := fun (d : Nat) (os : Array Obj) => CallsIn.regrown_of (callsIn_wide (n := 4).2 (HT.out _ ((below_regrown W d os).mono HI.out.be.size |> HI.out.be.trans)))
        refine wpIn_region_quiet_below rfl (by kernel_rfl) (by kernel_rfl) ?_
        repeat (refine wpQuietIn_step (askedR (fun _ => trivial)) (fun K hK => ?_); go_simp; first | (refine hK _ ?_; clear hK K) | (apply Exists.intro; refine ⟨fun _ => ?_, hK _ ?_⟩; (first | exact cT _ _ | exact ⟨by decide, cT _ _⟩); clear hK K))
        clear k0 k1 k2 k3 k4 hlk cT
        refine wpQuietIn_nil ?_
        rintro w4 ⟨⟨dq, osq⟩, hw4⟩
        have hb4 : Below W.heap.size W w4 := by rw [hw4]; exact below_regrown W dq osq
        clear hw4
        have hK4 := (hb4.block D (Array.getElem?_eq_some_iff.1 hK).1).trans hK
        have hBf := HI.out.be.trans (hb4.mono HI.out.be.size)
        clear HT HI
        gi_wp2_with fail
        refine ⟨by simp, .inl ⟨_, _, rfl, run_takeDeferred hK4, ?_⟩⟩
        refine ⟨.string (strOfNums (ov ++ sg)), ?_, by rw [HF.out], hBf.trans (belowK_b (w := w) (Nat.le_refl _) _ D _ _ (by omega) hK4 rfl rfl)⟩
        simp [results, Try.f22, go_sem, strOfNums_app]
    case stop =>
      rintro D c pre W hD ht h
      exact h.elim
end Go.Proofs.Yteefopeclfojiaa
