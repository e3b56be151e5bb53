/-
  Parts Rg DeG DeH DeI of this seat's texts, in one file: contracts of functions that the law reaches, and the plain laws behind them. No condition.
-/
import Derived.Test.YthahfoliblgegaaGreatDoorG1
import Derived.RangeFuncNested
import Derived.Test.YthahfoliblgegaaGreatDoorG10
import Derived.RangeFuncOwn
import Derived.RangeFuncBound
import Derived.RangeFuncCalls
import Derived.RangeFuncLeaves
import Derived.Shelf.Abstract
import Derived.Shelf.RegionOpen
import Derived.OwnWalkIn
import Derived.LoopIn
import Derived.Test.YthahfoliblgegaaGreatDoorG2
import Derived.Maps.AppendAt
/- 
  A range over an iterator that keeps state of its own in cells: the caller's invariant abides the change of such blocks too.
 -/
namespace Go.Proofs.YthahfoliblgegaaGreatDoor
open Go.RowKit
/-- what the iterator itself may change of a world: a walk, or a block of the kind Mu, at B or above. -/
def Turns (Mu : Obj → Prop) (B : Nat) (W W' : World) : Prop := ∃ row : Option Nat, W.grownBy W' row ∧ ∀ r, row = some r → B ≤ r ∧ ∃ o : Obj, W.heap[r]? = some o ∧ (o.isCells = false ∨ Mu o)
/-- I stays as it is under such turns. -/
def OwnM {β : Type} (Mu : Obj → Prop) (B : Nat) (I : β → World → Prop) : Prop := ∀ s W W', I s W → Turns Mu B W W' → I s W'
/-- .. and where walks alone are meant among what is no cells. -/
def AbidesM {β : Type} (Mu : Obj → Prop) (B : Nat) (J : β → World → Prop) : Prop :=
  ∀ s W W' (row : Option Nat), J s W → W.grownBy W' row → (∀ r, row = some r → B ≤ r ∧ ∃ o : Obj, W.heap[r]? = some o ∧ (o.isWalk = true ∨ Mu o)) → J s W'
theorem OwnM.from {β : Type} {Mu : Obj → Prop} {B : Nat} {I : β → World → Prop} (h : OwnM Mu B I) : OwnFrom B I :=
  fun s W W' row hs hg hr => h s W W' hs ⟨row, hg, fun r e => by obtain ⟨h1, o, h2, h3⟩ := hr r e; exact ⟨h1, o, h2, .inl h3⟩⟩
theorem OwnM.and {β : Type} {Mu : Obj → Prop} {B : Nat} {I I' : β → World → Prop} (h : OwnM Mu B I) (h' : OwnM Mu B I') : OwnM Mu B (fun s W => I s W ∧ I' s W) :=
  fun s W W' hs ht => ⟨h s W W' hs.1 ht, h' s W W' hs.2 ht⟩
theorem OwnM.pure {β : Type} (Mu : Obj → Prop) (B : Nat) (p : β → Prop) : OwnM Mu B (fun s (_ : World) => p s) := fun _ _ _ hs _ => hs
theorem Turns.below {Mu : Obj → Prop} {B : Nat} {W W' : World} (h : Turns Mu B W W') {C : Nat} (hB : C ≤ B) (hC : C ≤ W.heap.size) : Below C W W' := by
  obtain ⟨row, hg, hr⟩ := h
  exact ⟨hg.os, hg.tape, hg.output, hg.size, fun k hk => hg.block k (by omega) (fun e => by have := (hr k e.symm).1; omega)⟩
/-- what the iterator owes, to a caller whose invariant abides its own turns. -/
def SeqStopsM {α : Type} (Mu : Obj → Prop) (F : Fence) (n : Nat) (P : Program) (g : Nat) (lb : Array Value) (encs : α → Array Value) (Kp : World → World → Prop) (S Sp : List α → Prop) (N : Nat) (w : World) : Prop :=
  ∀ (l : Nat) (J Jx : List α → World → Prop) (W : World), Below w.heap.size w W → AbidesM Mu W.heap.size J → AbidesM Mu W.heap.size Jx →
    (∀ pre x W1, J pre W1 → pre.length < N → YieldAt F (n - 1) P l (encs x) W1 fun e W' =>
      (e = .returned (.bool true) ∧ J (pre ++ [x]) W' ∧ Kp W1 W') ∨ (e = .returned (.bool false) ∧ Jx (pre ++ [x]) W')) →
    J [] W →
    CallsIn F n P g (#[.func (.yield l) #[] #[]] ++ lb) W fun e W' => (∃ v, e = .returned v) ∧ ((∃ xs, S xs ∧ J xs W') ∨ (∃ pre, Sp pre ∧ Jx pre W'))
section
variable {F : Fence} {n : Nat} {P : Program}
/-- a loop's record, its deferred calls at D. -/
def recM (fn : FuncId) (tmps : Array Value) (ps : Array Tmp) (assign body : Code) (D : Nat) (st : LoopState) (pe : Option Code) : Loop := { state := st, pending := pe, fn, tmps, params := ps, assign, body, defers := D }
/-- the two blocks of book-keeping, D and D + 1. -/
def BookM (D : Nat) (L : Loop) (W : World) : Prop := W.heap[D + 1]? = some (.loop L) ∧ W.heap[D]? = some (.deferred (some []))
theorem BookM.lt {D : Nat} {L : Loop} {W : World} (h : BookM D L W) : D + 1 < W.heap.size := (Array.getElem?_eq_some_iff.1 h.1).1
theorem BookM.keeps {D : Nat} {L : Loop} {W W' : World} (h : BookM D L W) (hk : KeepsFrom D W W') : BookM D L W' := ⟨hk.same _ _ (by omega) h.1 rfl, hk.same _ _ (Nat.le_refl _) h.2 rfl⟩
theorem BookM.put {D : Nat} {L : Loop} {W : World} (h : BookM D L W) (L' : Loop) : BookM D L' (W.putObj (D + 1) (.loop L')) := ⟨World.putObj_heap_same h.lt, (World.putObj_heap_other (by omega)).trans h.2⟩
theorem BookM.abides {Mu : Obj → Prop} {D B : Nat} {L : Loop} {W W' : World} (h : BookM D L W) (hB : D + 2 ≤ B) {row : Option Nat} (hg : W.grownBy W' row)
    (hr : ∀ r, row = some r → B ≤ r ∧ ∃ o : Obj, W.heap[r]? = some o ∧ (o.isWalk = true ∨ Mu o)) : BookM D L W' := by
  have hl := h.lt
  have far : ∀ k, k < D + 2 → W'.heap[k]? = W.heap[k]? := fun k hk => hg.block k (by omega) (fun e => by have := (hr k e.symm).1; omega)
  exact ⟨(far _ (by omega)).trans h.1, (far _ (by omega)).trans h.2⟩
theorem BookM.made (w : World) (L : Loop) : BookM w.heap.size L ((w.alloc (.deferred (some []))).alloc (.loop L)) := by
  refine ⟨?_, (Below.heap_alloc _ _ _ (by simp)).trans (World.alloc_heap_new w _)⟩
  have := World.alloc_heap_new (w.alloc (.deferred (some []))) (.loop L)
  rwa [World.size_alloc] at this
/-- the range over such an iterator. -/
theorem wpIn_rangeFunc_ownM (Mu : Obj → Prop) {w : World} {α : Type} {g : Operand} {ps : Array Tmp} {assign body : Code} {Q : Exit → Act → World → Prop} {a : Act}
    (hro : F.round = none) (h1 : 1 ≤ n) {gf : Nat} {lb : Array Value} (hg : a.eval g = .func (.func gf) #[] lb) (hFg : F.fn gf) (eg : ∀ args w, (callFunc gf args).run P w = .ok (.enter gf args) w)
    {encs : α → Array Value} {Kp : World → World → Prop} {S Sp : List α → Prop} {N : Nat} {w0 : World} (hseq : SeqStopsM Mu F (n - 1) P gf lb encs Kp S Sp N w0)
    (hKt : ∀ {A B C : World}, Kp A B → Kp B C → Kp A C) (hKb : ∀ (W : World) (l : Nat) (o o' : Obj), w.heap.size ≤ l → W.heap[l]? = some o → o.isCells = false → o.isWalk = false → Kp W (W.putObj l o')) (hb0 : Below w0.heap.size w0 w) (hps : ∀ x, (encs x).size = ps.size)
    (I : List α → World → Prop) (Ix : Code → List α → World → Prop) (hI : OwnM Mu w.heap.size I) (hIx : ∀ c, OwnM Mu w.heap.size (Ix c)) (h0 : I [] w) (Ax : α → Act → World → Prop) (hAx : ∀ x a', OwnFrom w.heap.size (fun (_ : Unit) W => Ax x a' W))
    (hassign : ∀ (l : Nat) (pre : List α) (x : α) (W : World) (K : Act → World → Prop), I pre W → (∀ a' W', KeepsFrom w.heap.size W W' → Kp W W' → I pre W' → Ax x a' W' → K a' W') →
      assign.wpIn (F.inRound l) (n - 1 - 1) P (Exit.then K (fun _ _ _ => False)) { tmps := (ps.zip (encs x)).foldl (fun t (p, v) => t.setIfInBounds p v) a.tmps, defers := [] } W)
    (hbody : ∀ (l : Nat) (pre : List α) (x : α) (a' : Act) (W : World), w.heap.size ≤ l → I pre W → Ax x a' W → pre.length < N → body.wpIn (F.inRound l) (n - 1 - 1) P (ownPostG w.heap.size Kp I Ix (pre ++ [x]) W) a' W)
    (hdone : ∀ (D : Nat) (xs : List α) (W : World), w.heap.size ≤ D → S xs → I xs W → W.heap[D]? = some (.deferred (some [])) → Q .normal { a with defers := { target := .collected D, args := #[] } :: a.defers } W)
    (hstop : ∀ (D : Nat) (c : Code) (pre : List α) (W : World), w.heap.size ≤ D → Sp pre → Ix c pre W → W.heap[D]? = some (.deferred (some [])) → c.wpIn F n P Q { a with defers := { target := .collected D, args := #[] } :: a.defers } W) :
    (Code.rangeFunc g ps assign body).wpIn F n P Q a w := by
  refine wpIn_rangeFunc fun fn hfn => ?_
  rw [hro]
  obtain ⟨R, hR⟩ : ∃ R, R = recM fn a.tmps ps assign body w.heap.size := ⟨_, rfl⟩
  have hbk := BookM.made w (R .ready none)
  have hi0 : I [] ((w.alloc (.deferred (some []))).alloc (.loop (R .ready none))) := hI.from.alloc _ (hI.from.alloc _ h0)
  have hbl := ((Below.refl _ w).alloc (Nat.le_refl _) (.deferred (some []))).alloc (by simp) (.loop (R .ready none))
  have hen := run_enterLoop_outer (P := P) (w := w) fn a.tmps ps assign body
  obtain ⟨V, hV⟩ : ∃ V, (w.alloc (.deferred (some []))).alloc (.loop (R .ready none)) = V := ⟨_, rfl⟩
  have hVs : V.heap.size = w.heap.size + 2 := by rw [← hV]; simp
  have hrel : ∀ {A : World} {row : Option Nat}, (∀ r, row = some r → V.heap.size ≤ r ∧ ∃ o : Obj, A.heap[r]? = some o ∧ (o.isWalk = true ∨ Mu o)) → ∀ r, row = some r → w.heap.size ≤ r ∧ ∃ o : Obj, A.heap[r]? = some o ∧ (o.isCells = false ∨ Mu o) :=
    fun hr r e => by
      obtain ⟨hB, o, ho, hw⟩ := hr r e
      exact ⟨by omega, o, ho, hw.imp Obj.not_cells_of_walk id⟩
  refine ⟨w.heap.size + 1, [{ target := .collected w.heap.size, args := #[] }], V, { target := .fn (.func gf) lb, args := #[.func (.yield (w.heap.size + 1)) #[] #[]] }, V, gf, #[.func (.yield (w.heap.size + 1)) #[] #[]] ++ lb, V,
    (by rw [← hV, hR]; exact hen), (by simp only [resolve, hg]; simp [go_sem]), (fun f' hf' => by simp [Target.leads] at hf'; subst hf'; exact hFg), (by simp [invoke, go_sem, eg]), (fun _ => h1), ?_⟩
  rw [hV] at hbk hi0 hbl
  refine (hseq (w.heap.size + 1) (fun pre W => I pre W ∧ BookM w.heap.size (R .ready none) W) (fun pre W => ∃ c, Ix c pre W ∧ BookM w.heap.size (R .done (some c)) W) V (hb0.trans (hbl.mono hb0.size))
    (fun s A B row hs hgr hr => ⟨hI s A B hs.1 ⟨row, hgr, hrel hr⟩, hs.2.abides (by omega) hgr hr⟩)
    (fun s A B row ⟨c, hc, hb⟩ hgr hr => ⟨c, hIx c s A B hc ⟨row, hgr, hrel hr⟩, hb.abides (by omega) hgr hr⟩) ?_ ⟨hi0, hbk⟩).mono ?_
  · rintro pre x W ⟨hi, hbW⟩ hlen
    have hy := run_yield (P := P) (args := encs x) hbW.1 (by rw [hR]; exact hps x)
    rw [hR] at hy
    refine ⟨fn, _, assign, body, hy, roundIn_of_wpIn hfn (hassign _ pre x W _ hi fun a' U hkU hkpU hiU hax => ?_)⟩
    have hbU := hbW.keeps hkU
    have hput := fun (X : World) (L : Loop) (hX : BookM w.heap.size L X) (L' : Loop) => hKb X _ _ (.loop L') (Nat.le_succ _) hX.1 rfl rfl
    refine ⟨_, run_beginRound hbU.1 (by rw [hR]; rfl), ?_⟩
    have hbB := hbU.put { R .ready none with state := .busy }
    refine wpIn_mono (hbody _ pre x a' _ (Nat.le_succ _) (hI.from.putObj _ hiU (Nat.le_succ _) hbU.1 rfl) ((hAx x a').putObj (s := ()) _ hax (Nat.le_succ _) hbU.1 rfl) hlen) ?_
    have hkp1 := hKt hkpU (hput _ _ hbU { R .ready none with state := .busy })
    have leave : ∀ (jump : Option Code) (X : World), KeepsFrom w.heap.size (U.putObj (w.heap.size + 1) (.loop { R .ready none with state := .busy })) X →
        (Instr.endRound (w.heap.size + 1) jump).run P X = .ok (.bool jump.isNone) (X.putObj (w.heap.size + 1) (.loop (R (if jump.isNone then .ready else .done) jump))) ∧ BookM w.heap.size { R .ready none with state := .busy } X := fun jump X hX => by
      have hbX := hbB.keeps hX
      refine ⟨?_, hbX⟩
      have := run_endRound (P := P) jump hbX.1
      rw [hR] at this ⊢
      exact this
    have jumps : ∀ (c : Code) (X : World), KeepsFrom w.heap.size (U.putObj (w.heap.size + 1) (.loop { R .ready none with state := .busy })) X → Ix c (pre ++ [x]) X →
        ∃ c', Ix c' (pre ++ [x]) (X.putObj (w.heap.size + 1) (.loop (R .done (some c)))) ∧ BookM w.heap.size (R .done (some c')) (X.putObj (w.heap.size + 1) (.loop (R .done (some c)))) := fun c X hX hc =>
      ⟨c, (hIx c).from.putObj _ hc (Nat.le_succ _) (leave none X hX).2.1 rfl, (leave none X hX).2.put _⟩
    intro e a3 X hp
    cases e with
    | normal =>
      obtain ⟨hX, hkp, hi3⟩ := hp
      obtain ⟨hr, hbX⟩ := leave none X hX
      exact ⟨_, _, hr, .inl ⟨rfl, ⟨hI.from.putObj _ hi3 (Nat.le_succ _) hbX.1 rfl, hbX.put _⟩, hKt hkp1 (hKt hkp (hput _ _ hbX _))⟩⟩
    | ret => exact ⟨_, _, (leave (some .ret) X hp.1).1, .inr ⟨rfl, jumps .ret X hp.1 hp.2⟩⟩
    | exit id => exact ⟨_, _, (leave (some (.exit id)) X hp.1).1, .inr ⟨rfl, jumps (.exit id) X hp.1 hp.2⟩⟩
    | goto t => exact ⟨_, _, (leave (some (.goto t)) X hp.1).1, .inr ⟨rfl, jumps (.goto t) X hp.1 hp.2⟩⟩
    | panic ch => exact hp.elim
    | outgrown => exact hp.elim
  · rintro e X ⟨⟨v, rfl⟩, ⟨xs, hS, hi, hb⟩ | ⟨pre, hSp, c, hi, hb⟩⟩
    all_goals
      have hend := run_endLoop (P := P) hb.1 (by rw [hR]; simp [recM])
      rw [hR] at hend
    · exact ⟨none, _, hend, hdone _ xs _ (Nat.le_refl _) hS (hI.from.putObj _ hi (Nat.le_succ _) hb.1 rfl) ((World.putObj_heap_other (by omega)).trans hb.2)⟩
    · exact ⟨some c, _, hend, hstop _ c pre _ (Nat.le_refl _) hSp ((hIx c).from.putObj _ hi (Nat.le_succ _) hb.1 rfl) ((World.putObj_heap_other (by omega)).trans hb.2)⟩
end
end Go.Proofs.YthahfoliblgegaaGreatDoor
/- 
  Layer 7: the walk of the iterator over a declaration's parts.
 -/
namespace Go.Proofs.YthahfoliblgegaaGreatDoor
open Go.RowKit
attribute [local go_sem] Oper.semAt_some
/-- a part as a value. -/
def pcD (x : List Int × List Int) : Value := .agg #[.string (strOfNums x.1), .string (strOfNums x.2)]
def parT (l : List Int) : List (List Int × List Int) := parD (l.length + 1) l
theorem parT_none {l : List Int} (h : partD l = none) : parT l = [] := by unfold parT; rw [parD, h]
theorem parT_some {l : List Int} {p : (List Int × List Int) × List Int} (h : partD l = some p) : parT l = p.1 :: parT p.2 := by
  have hl := partD_lt h
  unfold parT
  rw [parD, h]
  show _ :: parD l.length p.2 = _
  rw [parD_fuel l.length (p.2.length + 1) p.2 hl (by omega)]
theorem parT_len : ∀ (f : Nat) (l : List Int), l.length ≤ f → (parT l).length ≤ l.length
  | 0, l, h => by
    obtain rfl : l = [] := List.eq_nil_of_length_eq_zero (by omega)
    rw [parT_none rfl]; exact Nat.zero_le _
  | f + 1, l, h => by
    cases e : partD l with
    | none => rw [parT_none e]; exact Nat.zero_le _
    | some p =>
      have hl := partD_lt e
      have := parT_len f p.2 (by omega)
      rw [parT_some e, List.length_cons]; omega
/-- the cutter's block. -/
def MuC : Obj → Prop := fun o => ∃ v m, o = .cells #[v] 130 m
/-- what a round keeps for the iterator: the library's variable, the cutter, the form of a part's variable. -/
structure KeepsDc (W W' : World) : Prop where
  max : ∀ (i : Int), MaxAt W i → MaxAt W' i
  cut : ∀ (k : Nat) (u : Value), Boxed W k 130 u → Boxed W' k 130 u
  two : ∀ (k : Nat) (x y : ByteArray), W.heap[k]? = some (Obj.cells #[Value.string x, Value.string y] 88 (0, 0)) → ∃ x' y' : ByteArray, W'.heap[k]? = some (Obj.cells #[Value.string x', Value.string y'] 88 (0, 0))
theorem KeepsDc.refl (W : World) : KeepsDc W W := ⟨fun _ h => h, fun _ _ h => h, fun _ x y h => ⟨x, y, h⟩⟩
theorem KeepsDc.trans {A B C : World} (h : KeepsDc A B) (k : KeepsDc B C) : KeepsDc A C :=
  ⟨fun _ hm => k.max _ (h.max _ hm), fun _ _ hv => k.cut _ _ (h.cut _ _ hv), fun i x y hi => by obtain ⟨x', y', h'⟩ := h.two i x y hi; exact k.two i x' y' h'⟩
theorem KeepsDc.below {A B : World} (h : Below A.heap.size A B) : KeepsDc A B :=
  ⟨fun _ hm => hm.below h, fun _ _ hk => (h.block _ (Boxed.lt hk)).trans hk, fun k x y hk => ⟨x, y, (h.block k (Array.getElem?_eq_some_iff.1 hk).1).trans hk⟩⟩
theorem KeepsDc.putObj (W : World) (l : Nat) (o o' : Obj) (hW : W.heap[l]? = some o) (hc : o.isCells = false) : KeepsDc W (W.putObj l o') := by
  have far : ∀ (k : Nat) (c : Array Value) (t : TypeId) (m : Nat × Nat), W.heap[k]? = some (Obj.cells c t m) → (W.putObj l o').heap[k]? = some (Obj.cells c t m) := fun k c t m hk => by
    refine ((grownBy_putObj' W l o').block k (Array.getElem?_eq_some_iff.1 hk).1 (fun e => ?_)).trans hk
    injection e with e
    subst e
    rw [hk] at hW
    cases hW
    cases hc
  refine ⟨fun _ hm => ?_, fun _ _ hk => far _ _ _ _ hk, fun k x y hk => ⟨x, y, far _ _ _ _ hk⟩⟩
  exact cell_kept hm (grownBy_putObj' W l o') (fun r e => by cases e; exact ⟨o, hW, hc⟩)
theorem grown_below {w w' : World} (hb : Below w.heap.size w w') (row : Option Nat) : w.grownBy w' row := ⟨hb.os, hb.tape, hb.output, hb.size, fun b hb' _ => hb.block b hb'⟩
theorem strSize_le {l : List Int} {s : ByteArray} (h : l.length ≤ s.size) : (strOfNums l).size ≤ s.size := by rw [strOfNums_size]; exact h
/-- how much of the cutter's text is left. -/
def curLen (w : World) (b : Nat) : Nat := match w.cell? ⟨b, 0, none⟩ with
  | some (.string z) => z.size
  | _ => 0
theorem curLen_of {w : World} {b : Nat} {z : ByteArray} (h : Boxed w b 130 (.string z)) : curLen w b = z.size := by unfold curLen; rw [h.cell]
def okN : Value → Nat
  | .bool true => 1
  | _ => 0
/-- between two rounds. -/
def dLoop (s : ByteArray) (m : Int) (b0 : Nat) (J : List (List Int × List Int) → World → Prop) (p ok : Value) (wr : World) : Prop :=
  ∃ (P : Nat) (done : List (List Int × List Int)) (z x y : ByteArray) (o2 : Bool), p = .pointer (some ⟨P, 0, none⟩) ∧ ok = .bool o2 ∧ Boxed wr b0 130 (.string z) ∧ wr.heap[P]? = some (Obj.cells #[.string x, .string y] 88 (0, 0)) ∧ z.size ≤ s.size ∧ J done wr ∧ MaxAt wr m ∧
    ((o2 = false ∧ partsD (nums s) = done) ∨ (o2 = true ∧ ∃ q : List Int × List Int, x = strOfNums q.1 ∧ y = strOfNums q.2 ∧ partsD (nums s) = done ++ q :: parT (nums z)))
set_option maxRecDepth 100000 in
set_option maxHeartbeats 4000000 in
theorem parts1_in (n : Nat) (hn : 1 ≤ n) (l Bs : Nat) (s : ByteArray) (hs : s.size ≤ 1000000) (J Jx : List (List Int × List Int) → World → Prop) (B0 : Nat) (hab : AbidesM MuC B0 J)
    (hY : ∀ pre x W, J pre W → (pre ++ [x]) <+: partsD (nums s) → pre.length < s.size → YieldAt Fence.wide (n - 1) Tryz.prog l #[pcD x] W fun e W' =>
      (e = .returned (.bool true) ∧ J (pre ++ [x]) W' ∧ KeepsDc W W') ∨ (e = .returned (.bool false) ∧ Jx (pre ++ [x]) W'))
    (W : World) (m : Int) (hm : MaxAt W m) (hB0 : B0 ≤ W.heap.size) (hBs : W.cell? ⟨Bs, 0, none⟩ = some (.string s)) (h0 : J [] W) :
    CallsIn Fence.wide n Tryz.prog 97 #[.func (.yield l) #[] #[], .pointer (some ⟨Bs, 0, none⟩)] W fun e W' => (∃ v, e = .returned v) ∧
      (J (partsD (nums s)) W' ∨ (∃ pre, pre <+: partsD (nums s) ∧ Jx pre W')) := by
  refine callsIn_of_wp Tryz.func97 rfl trivial ?_ rfl
  simp only [Tryz.ntmps97, List.size_toArray, List.length_cons, List.length_nil, Nat.reduceAdd, Nat.reduceSub, Array.replicate_succ, Array.replicate_zero, List.push_toArray, List.append_toArray, List.nil_append, List.cons_append]
  obtain ⟨b, hb⟩ : ∃ b, s.extract 0 (min (s.size : Int) 200).toNat = b := ⟨_, rfl⟩
  have nb : nums b = (nums s).take 200 := by
    rw [← hb, nums_extD, List.drop_zero, Nat.sub_zero]
    have e : (min (s.size : Int) 200).toNat = min s.size 200 := by omega
    rw [e]
    by_cases h : s.size ≤ 200
    · rw [Nat.min_eq_left h, List.take_of_length_le (by rw [nums_length]; omega), List.take_of_length_le (by rw [nums_length]; omega)]
    · rw [Nat.min_eq_right (by omega)]
  have hPD : partsD (nums s) = partsB (nums b) := by rw [nb]; rfl
  obtain ⟨T, hT⟩ : ∃ T : ByteArray, (⟨(Lib.trimPrefix b.data.toList (⟨#[60, 63, 120, 109, 108]⟩ : ByteArray).data.toList).toArray⟩ : ByteArray) = T := ⟨_, rfl⟩
  obtain ⟨ok, hok⟩ : ∃ v, Lib.hasPrefix b.data.toList (⟨#[60, 63, 120, 109, 108]⟩ : ByteArray).data.toList = v := ⟨_, rfl⟩
  have HCP := Lib.hid (fun u => by have h := Tryz.strings_CutPrefix b ⟨#[60, 63, 120, 109, 108]⟩ u; rw [hT, hok] at h; exact h.mono (R' := fun e w' => e = .returned (.tuple #[.string T, .bool ok]) ∧ u = w') fun _ _ ⟨h1, h2⟩ => ⟨h1, h2.symm⟩)
  have lb : b.size ≤ s.size := by rw [← nums_length, nb, List.length_take, nums_length]; omega
  have lT : T.size ≤ s.size := by
    refine Nat.le_trans ?_ lb
    rw [← hT, ← nums_length, ← nums_length, numsL_mk]
    unfold Lib.trimPrefix numsL nums
    split <;> simp
  have hpx : ok = [60, 63, 120, 109, 108].isPrefixOf (nums b) := by rw [← hok]; exact preB_nums b ⟨#[60, 63, 120, 109, 108]⟩
  obtain ⟨o, ho⟩ : ∃ o, endP (nums T) = o := ⟨_, rfl⟩
  have hcut := cut_pos T.data.toList [63, 62] o (by rw [idx_end, numsL_of, ho])
  obtain ⟨C1, hC1⟩ : ∃ x : ByteArray, (⟨(cutO T.data.toList 2 o).1.toArray⟩ : ByteArray) = x := ⟨_, rfl⟩
  obtain ⟨C2, hC2⟩ : ∃ x : ByteArray, (⟨(cutO T.data.toList 2 o).2.1.toArray⟩ : ByteArray) = x := ⟨_, rfl⟩
  have hc3 : (cutO T.data.toList 2 o).2.2 = o.isSome := by cases o <;> rfl
  have HCUT := Lib.hid (fun (u : World) (hmu : MaxAt u m) => by
    have h := Tryz.strings_Cut T ⟨#[63, 62]⟩ m u (by omega) hmu
    rw [show Lib.cut T.data.toList (⟨#[63, 62]⟩ : ByteArray).data.toList = cutO T.data.toList 2 o from hcut, hC1, hC2, hc3] at h
    exact h)
  have hdr : ∀ (u : World) (k : Nat) ys, J ys u → J ys (u.drewN k) := fun u k ys h => hab ys u _ none h (grown_below (below_dn (Below.refl _ _) k) none) (fun r e => by cases e)
  cases hokv : ok with
  | false =>
    have HE := Lib.hid (show partsD (nums s) = [] by
      rw [hPD]
      unfold partsB insB
      rw [hokv] at hpx
      rw [← hpx]
      simp)
    rw [hokv] at HCP
    clear hpx hPD nb hT hok hC1 hC2 hcut hc3 lb hY hokv
    gi_wp2_with fail
    refine ⟨trivial, (callsIn_wide.2 (HCP.out _)).mono ?_⟩
    rintro e w' ⟨rfl, rfl⟩
    gi_wp2_with fail
    refine ⟨trivial, (callsIn_wide.2 (HCUT.out _ hm)).mono ?_⟩
    rintro e w' ⟨rfl, k, rfl⟩
    gi_wp2_with fail
    refine ⟨trivial, ?_⟩
    apply_assumption -exfalso -symm
    gi_wp2_with fail
    refine bodyPost_ret (results_none rfl _ _ _) rfl ?_
    exact ⟨⟨_, rfl⟩, .inl (by rw [HE.out]; exact hdr _ _ _ h0)⟩
  | true =>
    rw [hokv] at HCP hpx hok
    have nT : nums T = (nums b).drop 5 := by
      rw [← hT, numsL_mk]
      unfold Lib.trimPrefix
      rw [if_pos hok, numsL_drop, numsL_of]; rfl
    have hins : insB (nums b) = if (nums T).head?.map whN = some true then o.map ((nums T).take ·) else none := by
      unfold insB
      rw [← nT, ← hpx, ho]
      simp
    clear hok hT
    cases o with
    | none =>
      have HE := Lib.hid (show partsD (nums s) = [] by
        rw [hPD]
        unfold partsB
        rw [hins]
        split
        · rfl
        · rename_i s h
          split at h <;> cases h)
      clear hpx hPD nb hins hC1 hC2 hcut hc3 lb hY hokv nT ho
      gi_wp2_with fail
      refine ⟨trivial, (callsIn_wide.2 (HCP.out _)).mono ?_⟩
      rintro e w' ⟨rfl, rfl⟩
      gi_wp2_with fail
      refine ⟨trivial, (callsIn_wide.2 (HCUT.out _ hm)).mono ?_⟩
      rintro e w' ⟨rfl, k, rfl⟩
      gi_wp2_with fail
      refine ⟨trivial, ?_⟩
      apply_assumption -exfalso -symm
      gi_wp2_with fail
      refine bodyPost_ret (results_none rfl _ _ _) rfl ?_
      exact ⟨⟨_, rfl⟩, .inl (by rw [HE.out]; exact hdr _ _ _ h0)⟩
    | some i =>
      have hil := endP_lt _ _ ho
      rw [nums_length] at hil
      have zT : 0 < T.size := by omega
      obtain ⟨c, t, hct⟩ : ∃ c t, nums T = c :: t := by
        cases h : nums T with
        | nil => have := nums_length T; rw [h] at this; simp at this; omega
        | cons c t => exact ⟨c, t, rfl⟩
      have eT := empty_iff T
      rw [hct, decide_eq_false (by simp)] at eT
      have hc5 : (T[0].toNat : Int) = c := by
        have h := nums_drop T 0 zT
        rw [List.drop_zero, hct] at h
        injection h with h1 h2
        exact h1.symm
      have hix := index_str T 0 zT c 0 hc5 rfl
      have zT' : (0 : Int) < (T.size : Int) := by omega
      rw [hct, List.head?_cons, Option.map_some] at hins
      cases hwc : whN c with
      | false =>
        have HE := Lib.hid (show partsD (nums s) = [] by
          rw [hPD]
          unfold partsB
          rw [hins, hwc]
          rfl)
        have HW := Lib.hid (fun u => by have h := declare_white c u; rw [hwc] at h; exact h)
        clear hpx hPD nb hins hC1 hC2 hcut hc3 lb hY hokv nT ho hct hc5 hwc
        gi_wp2_with fail
        refine ⟨trivial, (callsIn_wide.2 (HCP.out _)).mono ?_⟩
        rintro e w' ⟨rfl, rfl⟩
        gi_wp2_with fail
        refine ⟨trivial, (callsIn_wide.2 (HCUT.out _ hm)).mono ?_⟩
        rintro e w' ⟨rfl, k, rfl⟩
        gi_wp2_with fail
        refine ⟨trivial, (callsIn_wide.2 (HW.out _)).mono ?_⟩
        rintro e w' ⟨rfl, rfl⟩
        gi_wp2_with fail
        refine bodyPost_ret (results_none rfl _ _ _) rfl ?_
        exact ⟨⟨_, rfl⟩, .inl (by rw [HE.out]; exact hdr _ _ _ h0)⟩
      | true =>
        have HW := Lib.hid (fun u => by have h := declare_white c u; rw [hwc] at h; exact h)
        have nC1 : nums C1 = (nums T).take i := by rw [← hC1, numsL_mk]; show numsL (T.data.toList.take i) = _; rw [numsL_take, numsL_of]
        have lC1 : C1.size ≤ s.size := by refine Nat.le_trans ?_ lT; rw [← nums_length, ← nums_length, nC1, List.length_take]; omega
        have HPD := Lib.hid (show partsD (nums s) = parT (nums C1) by
          rw [hPD]
          unfold partsB
          rw [hins, hwc, if_pos rfl, nC1, hct]
          rfl)
        have hN := parT_len _ (nums C1) (Nat.le_refl _)
        rw [nums_length] at hN
        clear hpx hPD nb hins hC1 hC2 hcut hc3 lb hokv nT ho hct hc5 hwc nC1
        gi_wp2_with fail
        refine ⟨trivial, (callsIn_wide.2 (HCP.out _)).mono ?_⟩
        rintro e w' ⟨rfl, rfl⟩
        gi_wp2_with fail
        refine ⟨trivial, (callsIn_wide.2 (HCUT.out _ hm)).mono ?_⟩
        rintro e w' ⟨rfl, k, rfl⟩
        gi_wp2_with fail
        refine ⟨trivial, (callsIn_wide.2 (HW.out _)).mono ?_⟩
        rintro e w' ⟨rfl, rfl⟩
        gi_wp2_with fail
        obtain ⟨b0, hb0⟩ : ∃ x, W.heap.size = x := ⟨_, rfl⟩
        have bx1 := Boxed.new (W.drewN k) 130 (.string C1)
        have hb1 := (below_dn (Below.refl W.heap.size W) k).alloc (Nat.le_refl _) (.cells #[.string C1] 130)
        have j1 := hab _ _ _ none h0 (grown_below hb1 none) (fun r e => by cases e)
        have m1 := hm.below hb1
        obtain ⟨W1, hW1⟩ : ∃ x, (W.drewN k).alloc (.cells #[.string C1] 130) = x := ⟨_, rfl⟩
        rw [hW1] at bx1 hb1 j1 m1
        rw [show (W.drewN k).heap.size = b0 from hb0] at bx1
        rw [hb0] at hB0
        rw [hb0, hW1]
        have HP := Lib.hid (fun (Z : ByteArray) (u : World) (hu : MaxAt u m) (hz : Z.size ≤ s.size) (hx : Boxed u b0 130 (.string Z)) => cutter_part b0 Z u m hu (by omega) hx)
        have HJP := Lib.hid (fun (u v : World) (Z : ByteArray) ys (hu : MaxAt u m) (hx : Boxed u b0 130 (.string Z)) (hg : u.grownBy v (some b0)) (hj : J ys u) =>
          (⟨hab ys u v (some b0) hj hg (fun r e => by cases e; exact ⟨hB0, _, hx, .inr ⟨_, _, rfl⟩⟩), hu.grown (cs := #[]) ⟨_, hx⟩ hg⟩ : J ys v ∧ MaxAt v m))
        refine ⟨trivial, (callsIn_wide.2 (HP.out C1 W1 m1 lC1 bx1)).mono ?_⟩
        rintro e W2 ⟨x, y, z, ok2, rfl, hok2, bx2, hg2, hz2, hp2⟩
        obtain ⟨j2, m2⟩ := HJP.out _ _ _ _ m1 bx1 hg2 j1
        have lz2 : z.size ≤ s.size := by omega
        have HO := Lib.hid (show (ok2 = false ∧ partsD (nums s) = []) ∨ (ok2 = true ∧ ∃ q : List Int × List Int, x = strOfNums q.1 ∧ y = strOfNums q.2 ∧ partsD (nums s) = [] ++ q :: parT (nums z)) by
          rw [HPD.out, hok2]
          cases h : partD (nums C1) with
          | none => exact .inl ⟨rfl, parT_none h⟩
          | some p =>
            obtain ⟨h1, h2, h3⟩ := hp2 p h
            exact .inr ⟨rfl, p.1, h1, h2, by rw [parT_some h, h3]; rfl⟩)
        clear hok2 hp2
        have bP := BlkAt.new W2 #[.string ⟨#[]⟩, .string ⟨#[]⟩] 88
        have lb0 := Boxed.lt bx2
        gi_wp2_with fail
        have hbA := (Below.refl W2.heap.size W2).alloc (Nat.le_refl _) (.cells #[.string x, .string y] 88)
        gi_loopw [9, 10] (fun p ok wr => dLoop s m b0 J p ok wr) (fun _ ok wr => 2 * curLen wr b0 + okN ok)
        case atStart => exact ⟨_, [], z, x, y, ok2, rfl, rfl, Boxed.alloc bx2 _, heap_alloc_new W2 _, lz2, hab _ _ _ none j2 (grown_below hbA none) (fun r e => by cases e), m2.below hbA, HO.out⟩
        case round =>
          obtain ⟨P, done, z, x, y, o2, rfl, rfl, bx, hP, lz, j, mm, hO⟩ := hrel
          rcases hO with ⟨rfl, hd⟩ | ⟨rfl, q, rfl, rfl, hd⟩
          · have HD := Lib.hid hd
            clear hd
            gi_wp2_with fail
            refine ⟨fun f h => (by cases h), ?_⟩
            apply_assumption -exfalso -symm
            gi_wp2_with fail
            go_end0
            exact ⟨⟨_, rfl⟩, .inl (by rw [HD.out]; exact j)⟩
          · have hlen : done.length < s.size := by
              have h1 := congrArg List.length hd
              rw [HPD.out, List.length_append, List.length_cons] at h1
              omega
            have HD := Lib.hid hd
            have hYW : YieldAt Fence.wide (n - 1) Tryz.prog l #[.agg #[.string (strOfNums q.1), .string (strOfNums q.2)]] wr fun e W' =>
                (e = .returned (.bool true) ∧ J (done ++ [q]) W' ∧ KeepsDc wr W') ∨ (e = .returned (.bool false) ∧ Jx (done ++ [q]) W') := hY done q wr j ⟨parT (nums z), by rw [hd]; simp⟩ hlen
            obtain ⟨fn, tmps, assign, body, hy, hR2⟩ := hYW
            have c0 : wr.cell? ⟨P, 0, none⟩ = some (.string (strOfNums q.1)) := by rw [cell_of_row wr _ 0 _ _ _ hP]; rfl
            have c1 : wr.cell? ⟨P, 1, none⟩ = some (.string (strOfNums q.2)) := by rw [cell_of_row wr _ 1 _ _ _ hP]; rfl
            clear hd
            gi_wp2
            refine hR2.mono ?_
            rintro e W3 (⟨rfl, hJ3, hk3⟩ | ⟨rfl, hJx3⟩)
            · have bx3 := hk3.cut _ _ bx
              have m3 := hk3.max _ mm
              obtain ⟨x', y', hP3⟩ := hk3.two _ _ _ hP
              have d0 : W3.cell? ⟨P, 0, none⟩ = some (.string x') := by rw [cell_of_row W3 _ 0 _ _ _ hP3]; rfl
              have d1 : W3.cell? ⟨P, 1, none⟩ = some (.string y') := by rw [cell_of_row W3 _ 1 _ _ _ hP3]; rfl
              clear hP c0 c1 hy hR2 hP3 hk3
              gi_wp2_with fail
              have hb4 := (Below.refl W3.heap.size W3).alloc (Nat.le_refl _) (.cells #[.string x', .string y'] 88)
              have bx4 := Boxed.alloc bx3 (.cells #[.string x', .string y'] 88)
              have m4 := m3.below hb4
              have hP4 := BlkAt.new W3 #[.string x', .string y'] 88
              have hP4t : (W3.alloc (.cells #[.string x', .string y'] 88)).heap[W3.heap.size]? = some (Obj.cells #[.string x', .string y'] 88 (0, 0)) := heap_alloc_new W3 _
              have lt3 := Boxed.lt bx3
              obtain ⟨W4, hW4⟩ : ∃ x, W3.alloc (.cells #[.string x', .string y'] 88) = x := ⟨_, rfl⟩
              have s4 : W4.heap.size = W3.heap.size + 1 := by rw [← hW4, World.size_alloc]
              rw [hW4] at hb4 bx4 m4 hP4 hP4t
              rw [hW4]
              refine ⟨trivial, (callsIn_wide.2 (HP.out z W4 m4 lz bx4)).mono ?_⟩
              rintro e W5 ⟨x2, y2, z2, ok2, rfl, hok2, bx5, hg5, hz5, hp5⟩
              have m5 := m4.grown (cs := #[]) ⟨_, bx4⟩ hg5
              have hP5 : W5.heap[W3.heap.size]? = some (Obj.cells #[.string x', .string y'] 88 (0, 0)) := (hg5.block _ (by omega) (fun e => by injection e with e; omega)).trans hP4t
              have c0 : W5.cell? ⟨W3.heap.size, 0, none⟩ = some (.string x') := by rw [cell_of_row W5 _ 0 _ _ _ hP5]; rfl
              have c1 : W5.cell? ⟨W3.heap.size, 1, none⟩ = some (.string y') := by rw [cell_of_row W5 _ 1 _ _ _ hP5]; rfl
              have f0 : W5.frozen? ⟨W3.heap.size, 0, none⟩ = false := by simp [World.frozen?, hP5]
              have f1 : W5.frozen? ⟨W3.heap.size, 1, none⟩ = false := by simp [World.frozen?, hP5]
              have HO2 := Lib.hid (show (ok2 = false ∧ partsD (nums s) = done ++ [q]) ∨ (ok2 = true ∧ ∃ q2 : List Int × List Int, x2 = strOfNums q2.1 ∧ y2 = strOfNums q2.2 ∧ partsD (nums s) = (done ++ [q]) ++ q2 :: parT (nums z2)) by
                rw [HD.out, hok2]
                cases h : partD (nums z) with
                | none => exact .inl ⟨rfl, by rw [parT_none h]⟩
                | some p =>
                  obtain ⟨h1, h2, h3⟩ := hp5 p h
                  exact .inr ⟨rfl, p.1, h1, h2, by rw [parT_some h, h3]; simp⟩)
              have hms : 2 * z2.size + okN (.bool ok2) < 2 * z.size + 1 := by
                rw [hok2]
                cases h : partD (nums z) with
                | none => show 2 * z2.size + 0 < _; omega
                | some p =>
                  obtain ⟨_, _, h3⟩ := hp5 p h
                  have := partD_lt h
                  rw [← h3, nums_length, nums_length] at this
                  show 2 * z2.size + 1 < _
                  omega
              have hgw : W3.grownBy ((W5.setCell ⟨W3.heap.size, 0, none⟩ (.string x2)).setCell ⟨W3.heap.size, 1, none⟩ (.string y2)) (some b0) :=
                ⟨hg5.os.trans hb4.os, hg5.tape.trans hb4.tape, hg5.output.trans hb4.output, by have := hg5.size; simp; omega, fun k hk hne => by
                  rw [heap_setCell_other _ ⟨W3.heap.size, 1, none⟩ k _ (by show k ≠ W3.heap.size; omega), heap_setCell_other _ ⟨W3.heap.size, 0, none⟩ k _ (by show k ≠ W3.heap.size; omega)]
                  exact (hg5.block k (by omega) hne).trans (hb4.block k hk)⟩
              have j6 := hab _ _ _ (some b0) hJ3 hgw (fun r e => by cases e; exact ⟨hB0, _, bx3, .inr ⟨_, _, rfl⟩⟩)
              have m6 := m3.grown (cs := #[]) ⟨_, bx3⟩ hgw
              have bx6 : Boxed ((W5.setCell ⟨W3.heap.size, 0, none⟩ (.string x2)).setCell ⟨W3.heap.size, 1, none⟩ (.string y2)) b0 130 (.string z2) := by
                unfold Boxed
                rw [heap_setCell_other _ ⟨W3.heap.size, 1, none⟩ b0 _ (by show b0 ≠ W3.heap.size; omega), heap_setCell_other _ ⟨W3.heap.size, 0, none⟩ b0 _ (by show b0 ≠ W3.heap.size; omega)]
                exact bx5
              have hP6 : ((W5.setCell ⟨W3.heap.size, 0, none⟩ (.string x2)).setCell ⟨W3.heap.size, 1, none⟩ (.string y2)).heap[W3.heap.size]? = some (Obj.cells #[.string x2, .string y2] 88 (0, 0)) := by
                rw [heap_setCell_same _ _ _ _ _ _ (heap_setCell_same _ _ _ _ _ _ hP5)]; rfl
              have lz2 : z2.size ≤ s.size := by omega
              clear hok2 hp5 hP5 hP4 hP4t hg5 hgw bx3 m3 hJ3
              gi_wp2_with fail
              go_roundw
              case rel => exact ⟨W3.heap.size, done ++ [q], z2, x2, y2, ok2, rfl, rfl, bx6, hP6, lz2, j6, m6, HO2.out⟩
              case measure =>
                rw [curLen_of bx6, curLen_of bx]
                exact hms
            · gi_wp2
              go_end0
              exact ⟨⟨_, rfl⟩, .inr ⟨done ++ [q], ⟨parT (nums z), by rw [HD.out]; simp⟩, hJx3⟩⟩
theorem parts1_stops (n : Nat) (hn : 1 ≤ n) (Bs : Nat) (s : ByteArray) (hs : s.size ≤ 1000000) (w : World) (hBs : Bs < w.heap.size) (hc : w.cell? ⟨Bs, 0, none⟩ = some (.string s)) (m : Int) (hm : MaxAt w m) :
    SeqStopsM MuC Fence.wide n Tryz.prog 97 #[.pointer (some ⟨Bs, 0, none⟩)] (fun x : List Int × List Int => #[pcD x]) KeepsDc (fun ys => ys = partsD (nums s)) (fun pre => pre <+: partsD (nums s)) s.size w := fun l J Jx W hW hJ _ hY h0 => by
  refine (parts1_in n hn l Bs s hs J Jx W.heap.size hJ (fun pre x W1 hj _ hl => hY pre x W1 hj hl) W m (hm.below hW) (Nat.le_refl _) ((hW.cell (p := ⟨Bs, 0, none⟩) hBs).trans hc) h0).mono ?_
  rintro e W' ⟨hv, h | h⟩
  · exact ⟨hv, .inl ⟨_, rfl, h⟩⟩
  · exact ⟨hv, .inr h⟩
end Go.Proofs.YthahfoliblgegaaGreatDoor
/- 
  Layer 7: the walks of Parts and Scan: what the iterator gives is collected, or looked through.
 -/
namespace Go.Proofs.YthahfoliblgegaaGreatDoor
open Go.RowKit
attribute [local go_sem] Oper.semAt_some
/-- an append whose run is known, inside a fence. -/
theorem wpListIn_app {F : Fence} {n : Nat} {P : Program} {w : World} {ops : Array Oper} {rest : List Oper} {o : Oper} {a : Act} {Q : Exit → Act → World → Prop}
    (hg : o.guard = none) (s x : Operand) (t tx : TypeId) (hop : o.op = Op.call { callee := Callee.builtin Builtin.append, args := #[s, x], argTypes := #[t, tx] })
    (v xv : Value) (hs : a.eval s = v) (hx : a.eval x = xv) (v' : Value) (w' : World)
    (hr : (Builtin.append_ #[t, tx] o.type #[v, xv]).run P w = .ok v' w') (hK : wpListIn F n P ops Q rest (a.put o.dst v') w') :
    wpListIn F n P ops Q (o :: rest) a w := by
  refine wpListIn_plain hg fun K hK' => ?_
  unfold Oper.wpIn
  refine ⟨?_, ?_⟩
  · simp [Oper.about, hop, resolve, Target.leads, Sem.run_pure]
  · rw [Oper.semAt_plain F _ _ (by rw [hop]; intro c hc'; cases hc')]
    simp [execOp, hop, resolve, invoke, builtin, hs, hx, hr, Result.andThen]
    exact hK' _ _ hK
theorem keepsOthers_of_rowD {W W' : World} {base : Nat} {e : TypeId} {size : Nat} {v : Value} {n : Nat} {xs : List Value} (hrow : W.ownsRow base e size v n xs) (hg : W.grownBy W' v.ownBlock) : KeepsOthers W W' := by
  refine KeepsOthers.of_grownBy hg fun j o ej hj => ?_
  rcases hrow.2 with ⟨rfl, _⟩ | ⟨g, cap, cur, rfl, _, hgb, _⟩
  · simp [Value.ownBlock] at ej
  · obtain rfl : g = j := by simpa [Value.ownBlock] using ej
    rw [hgb] at hj; cases hj; rfl
theorem cell_neD {W : World} {a b : Nat} (h : a ≠ b) (u : Value) : (W.setCell ⟨b, 0, none⟩ u).cell? ⟨a, 0, none⟩ = W.cell? ⟨a, 0, none⟩ :=
  World.cell?_of_block (Below.heap_setCell W ⟨b, 0, none⟩ u a h)
/-- parts as cells. -/
def dcC (l : List (List Int × List Int)) : List Value := l.flatMap fun p => [.string (strOfNums p.1), .string (strOfNums p.2)]
theorem dcC_snoc (l : List (List Int × List Int)) (p : List Int × List Int) : dcC (l ++ [p]) = dcC l ++ [.string (strOfNums p.1), .string (strOfNums p.2)] := by simp [dcC]
theorem dcC_len (l : List (List Int × List Int)) : (dcC l).length = l.length * 2 := by
  induction l with
  | nil => rfl
  | cons p l ih => simp only [dcC, List.flatMap_cons, List.length_append, List.length_cons, List.length_nil] at *; omega
theorem infoTwo : (Tryz.prog.info? 88).map (fun i => (i.zero, i.size, i.bytes)) = some (some (.agg #[.string ⟨#[]⟩, .string ⟨#[]⟩]), 2, 32) := by kernel_rfl
/-- 'append(s, p)' of one part. -/
theorem app_two (wr : World) (base : Nat) (v : Value) (n : Nat) (xs : List Value) (hown : wr.ownsRow base 88 2 v n xs) (x y : ByteArray) (hn : n < 1099511627776) (hbase : base ≤ wr.heap.size) :
    ∃ v' w', (Builtin.append_ #[95, 95] 95 #[v, .slice (some ⟨wr.heap.size, 0, none⟩) 1 1]).run Tryz.prog (wr.alloc (.cells #[.string x, .string y] 88)) = .ok v' w' ∧
      w'.ownsRow base 88 2 v' (n + 1) (xs ++ [.string x, .string y]) ∧ Below base wr w' ∧ (∀ (k : Nat) (o : Obj), wr.heap[k]? = some o → (∀ c m, o ≠ .cells c 88 m) → w'.heap[k]? = some o) ∧
      (∀ (k : Nat) (p q : ByteArray), wr.heap[k]? = some (Obj.cells #[.string p, .string q] 88 (0, 0)) → ∃ p' q' : ByteArray, w'.heap[k]? = some (Obj.cells #[.string p', .string q'] 88 (0, 0))) := by
  obtain ⟨i0, hi, hz0, hz1, hz2⟩ := info_parts infoTwo
  obtain ⟨w1, hw1⟩ : ∃ a, wr.alloc (.cells #[.string x, .string y] 88) = a := ⟨_, rfl⟩
  have h1 : w1.ownsRow base 88 2 v n xs := by rw [← hw1]; exact hown.alloc _
  have hs1 : w1.heap.size = wr.heap.size + 1 := by rw [← hw1, World.size_alloc]
  have hold : ∀ k, k < wr.heap.size → w1.heap[k]? = wr.heap[k]? := fun k hk => by rw [← hw1]; exact Below.heap_alloc _ _ k hk
  have hnews : ∀ j u, [Value.string x, .string y][j]? = some u → w1.cell? ((⟨wr.heap.size, 0, none⟩ : Addr).add j) = some u := fun j u hj => by
    rw [← hw1]
    match j, hj with
    | 0, hj => simp at hj; subst hj; simp [Addr.add, World.cell?_alloc_mark]
    | 1, hj => simp at hj; subst hj; simp [Addr.add, World.cell?_alloc_mark]
  have hone : ∀ u ∈ [Value.string x, .string y], u.oneCell' = true := fun u hu => by simp at hu; rcases hu with rfl | rfl <;> rfl
  obtain ⟨v', w', hr, h2, h3, _⟩ := run_append_own (P := Tryz.prog) w1 base 95 95 88 i0 (.agg #[.string ⟨#[]⟩, .string ⟨#[]⟩]) 2 32 Tryz.underlying95 hi hz0 hz1 hz2 rfl (by decide) v n _ h1 ⟨wr.heap.size, 0, none⟩ 1 1 [.string x, .string y] rfl
    hnews hone (by unfold maxLen; omega) (by omega) (by omega)
  have hbl : Below base wr w' := by
    have hb1 : Below base wr w1 := by rw [← hw1]; exact (Below.refl base wr).alloc hbase _
    exact hb1.trans (ownBelow h1 h3 (Nat.le_refl _) (by omega))
  have hfar : ∀ (k : Nat) (o : Obj), wr.heap[k]? = some o → some k ≠ v.ownBlock → w'.heap[k]? = some o := fun k o hk hne =>
    (h3.block k (by have := (Array.getElem?_eq_some_iff.1 hk).1; omega) hne).trans ((hold k (Array.getElem?_eq_some_iff.1 hk).1).trans hk)
  refine ⟨v', w', by rw [hw1]; exact hr, h2, hbl, fun k o hk ho => hfar k o hk (fun e => ?_), fun k p q hk => ?_⟩
  · rcases hown.2 with ⟨rfl, _⟩ | ⟨g, cap, cur, rfl, _, hg, _⟩
    · simp [Value.ownBlock] at e
    · simp only [Value.ownBlock, Option.some_inj] at e
      subst e
      rw [hg] at hk
      cases hk
      exact ho _ _ rfl
  · by_cases he : some k = v.ownBlock
    · rcases hown.2 with ⟨rfl, _⟩ | ⟨g, cap, cur, rfl, hbg, hg, hnc, hcm, hcs, htake⟩
      · simp [Value.ownBlock] at he
      · simp only [Value.ownBlock, Option.some_inj] at he
        subst he
        rw [hg] at hk
        cases hk
        have hc1 : cap = 1 := by simp at hcs; omega
        subst hc1
        have hg1 : w1.heap[k]? = some (Obj.cells #[.string p, .string q] 88 (0, 0)) := (hold k (Array.getElem?_eq_some_iff.1 hg).1).trans hg
        by_cases hroom : n + 1 ≤ 1
        · have hn0 : n = 0 := by omega
          subst hn0
          have hr2 := run_append_room (P := Tryz.prog) w1 95 95 88 i0 Tryz.underlying95 hi k 0 1 #[.string p, .string q] hg1 ⟨wr.heap.size, 0, none⟩ 1 1 [.string x, .string y] (by rw [hz1]; rfl) hnews hone (by omega) (by simp)
          rw [hr] at hr2
          injection hr2 with e1 e2
          subst e2
          exact ⟨x, y, by rw [setRow_heap w1 k _ _ _ _ hg1]; simp⟩
        · have hx : ∀ j u, xs[j]? = some u → w1.cell? ((⟨k, 0, none⟩ : Addr).add j) = some u := h1.cells (g := k) rfl
          have hr2 := run_append_grow (P := Tryz.prog) w1 95 95 88 i0 (.agg #[.string ⟨#[]⟩, .string ⟨#[]⟩]) Tryz.underlying95 hi hz0 ⟨k, 0, none⟩ n 1 xs (by rw [hz1]; exact h1.1) hx ⟨wr.heap.size, 0, none⟩ 1 1 [.string x, .string y] (by rw [hz1]; rfl) hnews (by omega) (by omega)
            (by rw [hz2]; exact growslice_fits (by omega) (by omega))
          rw [hr] at hr2
          injection hr2 with e1 e2
          subst e2
          exact ⟨p, q, (Below.heap_alloc w1.drew _ k (Array.getElem?_eq_some_iff.1 hg1).1).trans hg1⟩
    · exact ⟨p, q, hfar k _ hk he⟩
theorem declare_parts_in (F : Fence) (n : Nat) (h27 : F.fn 55) (hro : F.round = none) (s : ByteArray) (w : World) :
    CallsIn F n Tryz.prog 55 #[.string s] w fun e w' => e = .returned (.func (.func 97) #[] #[.pointer (some ⟨w.heap.size, 0, none⟩)]) ∧ w' = w.alloc (.cells #[.string s] 9) := by
  refine callsIn_of_wp Tryz.func55 rfl h27 ?_ hro
  simp only [Tryz.ntmps55, List.size_toArray, List.length_cons, List.length_nil, Nat.reduceAdd, Nat.reduceSub, Array.replicate_succ, Array.replicate_zero, List.push_toArray, List.append_toArray, List.nil_append, List.cons_append]
  gi_wp2
  go_ret
  exact ⟨rfl, rfl⟩
/-- the variable that collects. -/
def colI (w : World) : List (List Int × List Int) → World → Prop := fun pre W =>
  (∃ v, Boxed W w.heap.size 95 v ∧ W.ownsRow (w.heap.size + 1) 88 2 v pre.length (dcC pre)) ∧ Below w.heap.size w W
theorem colI_own (w : World) (B : Nat) (hB : w.heap.size + 1 ≤ B) : OwnM MuC B (colI w) := by
  rintro pre X Y ⟨⟨v, hv, hr⟩, hb⟩ ht
  have hbl := ht.below (C := w.heap.size) (by omega) hb.size
  refine ⟨⟨v, ?_, ?_⟩, hb.trans hbl⟩
  · obtain ⟨row, hg, hrow⟩ := ht
    refine hv.kept hg (fun e => ?_)
    have := (hrow _ e.symm).1
    omega
  · obtain ⟨row, hg, hrow⟩ := ht
    refine hr.kept hg ?_
    cases hvb : v.ownBlock with
    | none => exact .inl rfl
    | some g =>
      refine .inr fun e => ?_
      obtain ⟨_, o, ho, hc⟩ := hrow g e.symm
      rcases hr.2 with ⟨rfl, _⟩ | ⟨g', cap, cur, rfl, _, hg', _⟩
      · simp [Value.ownBlock] at hvb
      · simp only [Value.ownBlock, Option.some_inj] at hvb
        subst hvb
        rw [hg'] at ho
        cases ho
        rcases hc with hc | ⟨u, m, hc⟩
        · cases hc
        · injection hc with _ h2 _
          exact absurd h2 (by decide)
/-- a part's own block. -/
def PtAt (B : Nat) (x : List Int × List Int) (P : Nat) (W : World) : Prop := W.heap[P]? = some (Obj.cells #[.string (strOfNums x.1), .string (strOfNums x.2)] 88 (0, 0)) ∧ B ≤ P
theorem ptAt_own {α : Type} (B C : Nat) (x : List Int × List Int) (F : Nat → Prop) : OwnFrom C (fun (_ : α) W => ∃ P, PtAt B x P W ∧ F P) := by
  rintro _ X Y row ⟨P, ⟨hP, hle⟩, hF⟩ hg hr
  refine ⟨P, ⟨(hg.block P (Array.getElem?_eq_some_iff.1 hP).1 (fun e => ?_)).trans hP, hle⟩, hF⟩
  obtain ⟨_, o, ho, hc⟩ := hr P e.symm
  rw [hP] at ho
  cases ho
  cases hc
theorem own_mono {w : World} {base B : Nat} {e : TypeId} {size : Nat} {v : Value} {n : Nat} {xs : List Value} (h : w.ownsRow base e size v n xs) (hB : B ≤ base) : w.ownsRow B e size v n xs := by
  refine ⟨h.1, ?_⟩
  rcases h.2 with h | ⟨g, cap, cur, h1, h2, h3⟩
  · exact .inl h
  · exact .inr ⟨g, cap, cur, h1, by omega, h3⟩
def encBD (p : List Int × List Int) : Bool := (strOfNums p.1).toList == [101, 110, 99, 111, 100, 105, 110, 103]
/-- the first part that is named so. -/
def scanE : List (List Int × List Int) → Option (List Int × List Int)
  | [] => none
  | p :: r => if encBD p then some p else scanE r
theorem scanE_none : ∀ l, (∀ p ∈ l, encBD p = false) → scanE l = none
  | [], _ => rfl
  | p :: r, h => by rw [scanE, if_neg (by rw [h p (List.mem_cons_self ..)]; decide)]; exact scanE_none r fun q hq => h q (List.mem_cons_of_mem _ hq)
theorem scanE_some : ∀ (l g : List (List Int × List Int)) (x : List Int × List Int), (g ++ [x]) <+: l → (∀ p ∈ g, encBD p = false) → encBD x = true → scanE l = some x
  | [], g, x, h, _, _ => by have := h.length_le; simp at this
  | p :: r, [], x, h, _, hx => by
    obtain ⟨t, ht⟩ := h
    have e : x = p := by injection ht
    subst e
    rw [scanE, if_pos hx]
  | p :: r, y :: g, x, h, hg, hx => by
    rw [List.cons_append, List.cons_prefix_cons] at h
    have h1 := hg y (List.mem_cons_self ..)
    rw [h.1] at h1
    rw [scanE, if_neg (by rw [h1]; decide), scanE_some r g x h.2 (fun q hq => hg q (List.mem_cons_of_mem _ hq)) hx]
/-- what Scan tells. -/
def scnV (l : List (List Int × List Int)) : ByteArray × Bool := match scanE l with
  | some p => (strOfNums p.2, true)
  | none => (⟨#[]⟩, false)
def scnI (w : World) : List (List Int × List Int) → World → Prop := fun pre W =>
  ((Boxed W w.heap.size 9 (.string ⟨#[]⟩) ∧ Boxed W (w.heap.size + 1) 4 (.bool false)) ∧ Below w.heap.size w W) ∧ ∀ p ∈ pre, encBD p = false
def scnX (w : World) : Code → List (List Int × List Int) → World → Prop := fun c pre W =>
  ((∃ (g : List (List Int × List Int)) (x : List Int × List Int), (pre = g ++ [x] ∧ (∀ p ∈ g, encBD p = false) ∧ encBD x = true) ∧
    Boxed W w.heap.size 9 (.string (strOfNums x.2)) ∧ Boxed W (w.heap.size + 1) 4 (.bool true)) ∧ Below w.heap.size w W) ∧ c = .ret
theorem turns_boxed {Mu : Obj → Prop} {B k : Nat} {X Y : World} {t : TypeId} {v : Value} (ht : Turns Mu B X Y) (h : Boxed X k t v) (hk : k < B) : Boxed Y k t v := by
  obtain ⟨row, hg, hrow⟩ := ht
  refine h.kept hg (fun e => ?_)
  have := (hrow _ e.symm).1
  omega
theorem scnI_own (w : World) (B : Nat) (hB : w.heap.size + 2 ≤ B) : OwnM MuC B (scnI w) := by
  rintro pre X Y ⟨⟨⟨h1, h2⟩, hb⟩, h3⟩ ht
  exact ⟨⟨⟨turns_boxed ht h1 (by omega), turns_boxed ht h2 (by omega)⟩, hb.trans (ht.below (by omega) hb.size)⟩, h3⟩
theorem scnX_own (w : World) (B : Nat) (hB : w.heap.size + 2 ≤ B) (c : Code) : OwnM MuC B (scnX w c) := by
  rintro pre X Y ⟨⟨⟨g, x, h0, h1, h2⟩, hb⟩, h3⟩ ht
  exact ⟨⟨⟨g, x, h0, turns_boxed ht h1 (by omega), turns_boxed ht h2 (by omega)⟩, hb.trans (ht.below (by omega) hb.size)⟩, h3⟩
set_option maxRecDepth 100000 in
set_option maxHeartbeats 4000000 in
theorem declare_Scan (s : ByteArray) (hs : s.size ≤ 1000000) (w : World) (m : Int) (hm : MaxAt w m) :
    Calls Tryz.prog 25 #[.string s] w fun e w' => e = .returned (.tuple #[.string (scnV (partsD (nums s))).1, .bool (scnV (partsD (nums s))).2]) ∧ Below w.heap.size w w' := by
  refine (callsIn_wide (n := 5)).1 ?_
  refine callsIn_of_wp_marks Tryz.func25 rfl trivial ?_ rfl
  simp only [Tryz.ntmps25, List.size_toArray, List.length_cons, List.length_nil, Nat.reduceAdd, Nat.reduceSub, Array.replicate_succ, Array.replicate_zero, List.push_toArray, List.append_toArray, List.nil_append, List.cons_append]
  gi_wp2_with (refine ⟨trivial, ?_⟩; gi_at_call 55; refine (declare_parts_in Fence.wide _ trivial rfl _ _).mono ?_; rintro e w' ⟨rfl, rfl⟩)
  have bA := Boxed.new w 9 (.string ⟨#[]⟩)
  have e1 := (Below.refl _ w).alloc (Nat.le_refl _) (.cells #[.string ⟨#[]⟩] 9)
  obtain ⟨w1, hw1⟩ : ∃ x, w.alloc (.cells #[.string ⟨#[]⟩] 9) = x := ⟨_, rfl⟩
  have s1 : w1.heap.size = w.heap.size + 1 := by rw [← hw1, World.size_alloc]
  rw [hw1] at bA e1
  rw [hw1]
  have bB := Boxed.new w1 4 (.bool false)
  have bA := bA.alloc (.cells #[.bool false] 4)
  have e2 := e1.alloc (by omega) (.cells #[.bool false] 4)
  obtain ⟨w2, hw2⟩ : ∃ x, w1.alloc (.cells #[.bool false] 4) = x := ⟨_, rfl⟩
  have s2 : w2.heap.size = w.heap.size + 1 + 1 := by rw [← hw2, World.size_alloc, s1]
  rw [hw2] at bA bB e2
  rw [hw2]
  have bE := Boxed.new w2 9 (.string s)
  have bA := bA.alloc (.cells #[.string s] 9)
  have bB := bB.alloc (.cells #[.string s] 9)
  have e3 := e2.alloc (by omega) (.cells #[.string s] 9)
  obtain ⟨w3, hw3⟩ : ∃ x, w2.alloc (.cells #[.string s] 9) = x := ⟨_, rfl⟩
  have s3 : w3.heap.size = w.heap.size + 1 + 1 + 1 := by rw [← hw3, World.size_alloc, s2]
  rw [hw3] at bA bB bE e3
  rw [hw3]
  rw [s1] at bB
  rw [s2] at bE
  clear hw1 hw2 hw3 e1 e2 s1 s2
  refine wpIn_rangeFunc_ownM MuC rfl (by omega) (gf := 97) (lb := #[.pointer (some ⟨w.heap.size + 1 + 1, 0, none⟩)]) rfl trivial (enters_of Tryz.func97 (by kernel_rfl) rfl)
    (parts1_stops _ (by omega) (w.heap.size + 1 + 1) s hs w3 (by omega) bE.cell m (hm.below e3)) KeepsDc.trans (fun W l o o' _ h1 h2 _ => KeepsDc.putObj W l o o' h1 h2) (Below.refl _ _) (fun _ => rfl)
    (scnI w) (scnX w) (scnI_own w _ (by omega)) (scnX_own w _ (by omega))
    ⟨⟨⟨bA, bB⟩, e3⟩, fun x hx => by cases hx⟩
    (fun x a' W => ∃ P, PtAt (w.heap.size + 2) x P W ∧ a' = { tmps := #[.string s, undef, .pointer (some ⟨w.heap.size, 0, none⟩), .pointer (some ⟨w.heap.size + 1, 0, none⟩), .pointer (some ⟨P, 0, none⟩), .string s, .func (.func 97) #[] #[.pointer (some ⟨w.heap.size + 1 + 1, 0, none⟩)], pcD x, undef, undef, undef, undef, undef], defers := [] })
    (fun x a' => ptAt_own _ _ x _) ?assign ?body ?done ?stop
  case assign =>
    rintro l pre x W K hI hK
    dsimp only [pcD]
    gi_wp2
    obtain ⟨⟨⟨h1, h2⟩, hb⟩, h3⟩ := hI
    have hlt := h2.lt
    refine hK _ _ ((KeepsOthers.alloc _ _).from _) (KeepsDc.below ((Below.refl _ W).alloc (Nat.le_refl _) _)) ((scnI_own w _ (Nat.le_refl _)).from.alloc _ ⟨⟨⟨h1, h2⟩, hb⟩, h3⟩) ⟨_, ⟨heap_alloc_new W _, by omega⟩, rfl⟩
  case body =>
    rintro l pre x a' W hl ⟨⟨⟨hr1, hr2⟩, hB⟩, hall⟩ ⟨P, ⟨hP, hPl⟩, rfl⟩ hlt
    have p0 : W.cell? ⟨P, 0, none⟩ = some (.string (strOfNums x.1)) := by rw [cell_of_row W _ 0 _ _ _ hP]; rfl
    have p1 : W.cell? ⟨P, 1, none⟩ = some (.string (strOfNums x.2)) := by rw [cell_of_row W _ 1 _ _ _ hP]; rfl
    have c1 := hr1.cell
    have c2 := hr2.cell
    have f1 := hr1.frozen
    have f2 := hr2.frozen
    obtain ⟨T, hT⟩ : ∃ T, strOfNums x.1 = T := ⟨_, rfl⟩
    cases he : encBD x with
    | true =>
      have hq : (T.toList == [101, 110, 99, 111, 100, 105, 110, 103]) = true := by rw [← hT]; exact he
      have HE := Lib.hid he
      rw [hT] at p0
      clear he hT
      gi_wp2_with fail
      refine ⟨((KeepsOthers.setCell _ _ _).trans (KeepsOthers.setCell _ _ _)).from _, ⟨⟨pre, x, ⟨rfl, hall, HE.out⟩, ?_, ?_⟩, ?_⟩, rfl⟩
      · exact (hr1.set _).other (by omega) _
      · exact (hr2.other (by omega) _).set _
      · exact (hB.setCell (p := ⟨w.heap.size, 0, none⟩) (Nat.le_refl _) _).setCell (p := ⟨w.heap.size + 1, 0, none⟩) (by simp) _
    | false =>
      have hq : (T.toList == [101, 110, 99, 111, 100, 105, 110, 103]) = false := by rw [← hT]; exact he
      have HE := Lib.hid he
      rw [hT] at p0
      clear he hT
      gi_wp2_with fail
      refine ⟨(KeepsOthers.refl _).from _, KeepsDc.refl _, ⟨⟨hr1, hr2⟩, hB⟩, fun p hp => ?_⟩
      rw [List.mem_append, List.mem_singleton] at hp
      rcases hp with hp | rfl
      · exact hall p hp
      · exact HE.out
  case done =>
    rintro D ys W hD rfl ⟨⟨⟨hr1, hr2⟩, hB⟩, hall⟩ hK
    have c1 := hr1.cell
    have c2 := hr2.cell
    have f1 := hr1.frozen
    have f2 := hr2.frozen
    have HV := Lib.hid (show scnV (partsD (nums s)) = (⟨#[]⟩, false) by unfold scnV; rw [scanE_none _ hall])
    gi_wp2
    have b1 := (hr1.set (.string ⟨#[]⟩)).other (B' := w.heap.size + 1) (by omega) (.bool false)
    have b2 := (hr2.other (B' := w.heap.size) (by omega) (.string ⟨#[]⟩)).set (.bool false)
    have hKd := ((KeepsOthers.setCell W ⟨w.heap.size, 0, none⟩ (.string ⟨#[]⟩)).trans (KeepsOthers.setCell _ ⟨w.heap.size + 1, 0, none⟩ (.bool false))).same D _ hK rfl
    have hBf := (hB.setCell (p := ⟨w.heap.size, 0, none⟩) (Nat.le_refl _) (.string ⟨#[]⟩)).setCell (p := ⟨w.heap.size + 1, 0, none⟩) (by simp) (.bool false)
    refine ⟨by simp, .inl ⟨_, _, rfl, run_takeDeferred hKd, ?_⟩⟩
    have k1 := cell_kept b1.cell (grownBy_putObj' _ D (.deferred none)) (fun r e => by cases e; exact ⟨_, hKd, rfl⟩)
    have k2 := cell_kept b2.cell (grownBy_putObj' _ D (.deferred none)) (fun r e => by cases e; exact ⟨_, hKd, rfl⟩)
    refine ⟨.tuple #[.string ⟨#[]⟩, .bool false], ?_, by rw [HV.out], hBf.trans (belowK_b (w := w) (Nat.le_refl _) _ D _ _ (by omega) hKd rfl rfl)⟩
    simp [results, Tryz.f25, go_sem, k1, k2]
  case stop =>
    rintro D c pre W hD ht ⟨⟨⟨g, x, ⟨rfl, hg, hx⟩, h1, h2⟩, hB⟩, rfl⟩ hK
    have HV := Lib.hid (show scnV (partsD (nums s)) = (strOfNums x.2, true) by unfold scnV; rw [scanE_some _ g x ht hg hx])
    gi_wp2
    refine ⟨by simp, .inl ⟨_, _, rfl, run_takeDeferred hK, ?_⟩⟩
    have k1 := cell_kept h1.cell (grownBy_putObj' _ D (.deferred none)) (fun r e => by cases e; exact ⟨_, hK, rfl⟩)
    have k2 := cell_kept h2.cell (grownBy_putObj' _ D (.deferred none)) (fun r e => by cases e; exact ⟨_, hK, rfl⟩)
    refine ⟨.tuple #[.string (strOfNums x.2), .bool true], ?_, by rw [HV.out], hB.trans (belowK_b (w := w) (Nat.le_refl _) W D _ _ (by omega) hK rfl rfl)⟩
    simp [results, Tryz.f25, go_sem, k1, k2]
end Go.Proofs.YthahfoliblgegaaGreatDoor
/- 
  Layer 7: the document's begins, Mark, Cut, Shape, inside.
 -/
namespace Go.Proofs.YthahfoliblgegaaGreatDoor
open Go.RowKit
theorem pre_take (b p : ByteArray) (_h : p.size ≤ b.size) : ((b.extract 0 p.size).toList == p.toList) = preB b p := by
  have e1 : (b.extract 0 p.size).toList = b.data.toList.take p.size := by
    rw [ByteArray.toList_eq, ByteArray.data_extract, Array.toList_extract]; simp
  have e2 : p.toList = p.data.toList := ByteArray.toList_eq p
  have e3 : p.size = p.data.toList.length := rfl
  rw [e1, e2]
  unfold preB Lib.hasPrefix
  rw [Bool.eq_iff_iff, beq_iff_eq, List.isPrefixOf_iff_prefix, List.prefix_iff_eq_take, ← e3]
  exact eq_comm
theorem pre_short (b p : ByteArray) (h : b.size < p.size) : preB b p = false := by
  unfold preB Lib.hasPrefix
  cases e : p.data.toList.isPrefixOf b.data.toList with
  | false => rfl
  | true =>
    have := (List.isPrefixOf_iff_prefix.1 e).length_le
    rw [Array.length_toList, Array.length_toList] at this
    exact absurd h (by show ¬ b.data.size < p.data.size; omega)
theorem ref07_begins (b p : ByteArray) (w : World) : Calls Tryz.prog 59 #[.string b, .string p] w fun e w' => e = .returned (.bool (preB b p)) ∧ w = w' := by
  by_cases h : p.size ≤ b.size
  · have HT := Lib.hid (pre_take b p h)
    go_enter Tryz.func59, Tryz.ntmps59
    go_wp2
    go_ret
    exact ⟨ret_bool HT.out, rfl⟩
  · have HT := Lib.hid (pre_short b p (by omega))
    go_enter Tryz.func59, Tryz.ntmps59
    go_wp2
    go_ret
    exact ⟨ret_bool HT.out.symm, rfl⟩
theorem begins_at (b p : ByteArray) (l : List Int) (hl : nums p = l) (v : Bool) (hv : l.isPrefixOf (nums b) = v) : Hid (∀ u, Calls Tryz.prog 59 #[.string b, .string p] u fun e w' => e = .returned (.bool v) ∧ u = w') :=
  Lib.hid fun u => by have h := ref07_begins b p u; rw [preB_nums, hl, hv] at h; exact h
theorem ref07_Mark (b : ByteArray) (w : World) : Calls Tryz.prog 27 #[.string b] w fun e w' => e = .returned (.tuple #[.int .i8 (mrkV (nums b)).1, .int .i64 ((mrkV (nums b)).2.1 : Nat), .bool (mrkV (nums b)).2.2]) ∧ w = w' := by
  cases h1 : [239, 187, 191].isPrefixOf (nums b) with
  | true =>
    have H1 := begins_at b ⟨#[239, 187, 191]⟩ _ rfl true h1
    have HV := Lib.hid (show mrkV (nums b) = (0, 3, true) by unfold mrkV markD; rw [if_pos h1])
    clear h1
    go_enter Tryz.func27, Tryz.ntmps27
    go_wp2_with fail
    refine (H1.out _).mono ?_
    rintro e w' ⟨rfl, rfl⟩
    go_wp2
    go_ret3
    exact ⟨by rw [HV.out] <;> rfl, rfl⟩
  | false =>
    have H1 := begins_at b ⟨#[239, 187, 191]⟩ _ rfl false h1
    cases h2 : [255, 254].isPrefixOf (nums b) with
    | true =>
      have H2 := begins_at b ⟨#[255, 254]⟩ _ rfl true h2
      have HV := Lib.hid (show mrkV (nums b) = (1, 2, true) by unfold mrkV markD; rw [h1, if_neg (by decide), if_pos h2])
      clear h1 h2
      go_enter Tryz.func27, Tryz.ntmps27
      go_wp2_with fail
      refine (H1.out _).mono ?_
      rintro e w' ⟨rfl, rfl⟩
      go_wp2_with fail
      refine (H2.out _).mono ?_
      rintro e w' ⟨rfl, rfl⟩
      go_wp2
      go_ret3
      exact ⟨by rw [HV.out] <;> rfl, rfl⟩
    | false =>
      have H2 := begins_at b ⟨#[255, 254]⟩ _ rfl false h2
      cases h3 : [254, 255].isPrefixOf (nums b) with
      | true =>
        have H3 := begins_at b ⟨#[254, 255]⟩ _ rfl true h3
        have HV := Lib.hid (show mrkV (nums b) = (2, 2, true) by unfold mrkV markD; rw [h1, if_neg (by decide), h2, if_neg (by decide), if_pos h3])
        clear h1 h2 h3
        go_enter Tryz.func27, Tryz.ntmps27
        go_wp2_with fail
        refine (H1.out _).mono ?_
        rintro e w' ⟨rfl, rfl⟩
        go_wp2_with fail
        refine (H2.out _).mono ?_
        rintro e w' ⟨rfl, rfl⟩
        go_wp2_with fail
        refine (H3.out _).mono ?_
        rintro e w' ⟨rfl, rfl⟩
        go_wp2
        go_ret3
        exact ⟨by rw [HV.out] <;> rfl, rfl⟩
      | false =>
        have H3 := begins_at b ⟨#[254, 255]⟩ _ rfl false h3
        have HV := Lib.hid (show mrkV (nums b) = (0, 0, false) by unfold mrkV markD; rw [h1, if_neg (by decide), h2, if_neg (by decide), h3, if_neg (by decide)])
        clear h1 h2 h3
        go_enter Tryz.func27, Tryz.ntmps27
        go_wp2_with fail
        refine (H1.out _).mono ?_
        rintro e w' ⟨rfl, rfl⟩
        go_wp2_with fail
        refine (H2.out _).mono ?_
        rintro e w' ⟨rfl, rfl⟩
        go_wp2_with fail
        refine (H3.out _).mono ?_
        rintro e w' ⟨rfl, rfl⟩
        go_wp2
        go_ret3
        exact ⟨by rw [HV.out] <;> rfl, rfl⟩
theorem ref07_Shape (b : ByteArray) (w : World) : Calls Tryz.prog 31 #[.string b] w fun e w' => e = .returned (.tuple #[.int .i8 (shpV (nums b)).1, .bool (shpV (nums b)).2]) ∧ w = w' := by
  cases h1 : [60, 0, 63, 0].isPrefixOf (nums b) with
  | true =>
    have H1 := begins_at b ⟨#[60, 0, 63, 0]⟩ _ rfl true h1
    have HV := Lib.hid (show shpV (nums b) = (1, true) by unfold shpV shapeD; rw [if_pos h1])
    clear h1
    go_enter Tryz.func31, Tryz.ntmps31
    go_wp2_with fail
    refine (H1.out _).mono ?_
    rintro e w' ⟨rfl, rfl⟩
    go_wp2
    go_ret2
    exact ⟨by rw [HV.out] <;> rfl, rfl⟩
  | false =>
    have H1 := begins_at b ⟨#[60, 0, 63, 0]⟩ _ rfl false h1
    cases h2 : [0, 60, 0, 63].isPrefixOf (nums b) with
    | true =>
      have H2 := begins_at b ⟨#[0, 60, 0, 63]⟩ _ rfl true h2
      have HV := Lib.hid (show shpV (nums b) = (2, true) by unfold shpV shapeD; rw [h1, if_neg (by decide), if_pos h2])
      clear h1 h2
      go_enter Tryz.func31, Tryz.ntmps31
      go_wp2_with fail
      refine (H1.out _).mono ?_
      rintro e w' ⟨rfl, rfl⟩
      go_wp2_with fail
      refine (H2.out _).mono ?_
      rintro e w' ⟨rfl, rfl⟩
      go_wp2
      go_ret2
      exact ⟨by rw [HV.out] <;> rfl, rfl⟩
    | false =>
      have H2 := begins_at b ⟨#[0, 60, 0, 63]⟩ _ rfl false h2
      have HV := Lib.hid (show shpV (nums b) = (0, false) by unfold shpV shapeD; rw [h1, if_neg (by decide), h2, if_neg (by decide)])
      clear h1 h2
      go_enter Tryz.func31, Tryz.ntmps31
      go_wp2_with fail
      refine (H1.out _).mono ?_
      rintro e w' ⟨rfl, rfl⟩
      go_wp2_with fail
      refine (H2.out _).mono ?_
      rintro e w' ⟨rfl, rfl⟩
      go_wp2
      go_ret2
      exact ⟨by rw [HV.out] <;> rfl, rfl⟩
/-- what stands inside, as it is told. -/
def insV (l : List Int) : ByteArray × Bool := match insB (l.take 200) with
  | some x => (strOfNums x, true)
  | none => (⟨#[]⟩, false)
set_option maxHeartbeats 1000000 in
theorem ref07_inside (s : ByteArray) (w : World) (hs : s.size ≤ 1000000) : Calls Tryz.prog 110 #[.string s] w fun e w' => e = .returned (.tuple #[.string (insV (nums s)).1, .bool (insV (nums s)).2]) ∧ w = w' := by
  obtain ⟨b, nb, hcase⟩ : ∃ b, nums b = (nums s).take 200 ∧ ((s.size ≤ 200 ∧ b = s) ∨ (200 < s.size ∧ s.extract 0 200 = b)) := by
    by_cases h : s.size ≤ 200
    · exact ⟨s, by rw [List.take_of_length_le (by rw [nums_length]; omega)], .inl ⟨h, rfl⟩⟩
    · exact ⟨_, by rw [nums_extD, List.drop_zero], .inr ⟨by omega, rfl⟩⟩
  have lb : b.size ≤ s.size := by rw [← nums_length, nb, List.length_take, nums_length]; omega
  have hiv : insV (nums s) = match insB (nums b) with
      | some x => (strOfNums x, true)
      | none => (⟨#[]⟩, false) := by rw [nb]; rfl
  cases h1 : [60, 63, 120, 109, 108].isPrefixOf (nums b) with
  | false =>
    have H1 := begins_at b ⟨#[60, 63, 120, 109, 108]⟩ _ rfl false h1
    have HV := Lib.hid (show insV (nums s) = (⟨#[]⟩, false) by rw [hiv]; unfold insB; rw [h1]; simp)
    clear h1 hiv nb
    rcases hcase with ⟨hs2, rfl⟩ | ⟨hs2, hb⟩
    all_goals
      go_enter Tryz.func110, Tryz.ntmps110
      go_wp2_with fail
      refine (H1.out _).mono ?_
      rintro e w' ⟨rfl, rfl⟩
      go_wp2_with fail
      go_ret2
      exact ⟨by rw [HV.out] <;> rfl, rfl⟩
  | true =>
    have H1 := begins_at b ⟨#[60, 63, 120, 109, 108]⟩ _ rfl true h1
    by_cases h6 : b.size < 6
    · have HV := Lib.hid (show insV (nums s) = (⟨#[]⟩, false) by
        rw [hiv]; unfold insB
        rw [List.drop_eq_nil_of_le (by rw [nums_length]; omega)]
        simp)
      clear h1 hiv nb
      rcases hcase with ⟨hs2, rfl⟩ | ⟨hs2, hb⟩
      all_goals
        go_enter Tryz.func110, Tryz.ntmps110
        go_wp2_with fail
        refine (H1.out _).mono ?_
        rintro e w' ⟨rfl, rfl⟩
        go_wp2_with fail
        go_ret2
        exact ⟨by rw [HV.out] <;> rfl, rfl⟩
    · obtain ⟨c, hc5⟩ : ∃ c : Int, ((b[5]'(by omega)).toNat : Int) = c := ⟨_, rfl⟩
      have hix := index_str b 5 (by omega) c 5 hc5 rfl
      have hd5 := nums_drop b 5 (by omega)
      rw [hc5] at hd5
      have h6' : (5 : Int) < (b.size : Int) := by omega
      cases hwc : whN c with
      | false =>
        have HV := Lib.hid (show insV (nums s) = (⟨#[]⟩, false) by
          rw [hiv]; unfold insB
          rw [hd5, List.head?_cons, Option.map_some, hwc]
          simp)
        have HW := Lib.hid (fun u => by have h := ref07_white c u; rw [hwc] at h; exact h)
        clear h1 hiv nb hc5 hd5 hwc
        rcases hcase with ⟨hs2, rfl⟩ | ⟨hs2, hb⟩
        all_goals
          go_enter Tryz.func110, Tryz.ntmps110
          go_wp2_with fail
          refine (H1.out _).mono ?_
          rintro e w' ⟨rfl, rfl⟩
          go_wp2_with fail
          refine (HW.out _).mono ?_
          rintro e w' ⟨rfl, rfl⟩
          go_wp2_with fail
          go_ret2
          exact ⟨by rw [HV.out] <;> rfl, rfl⟩
      | true =>
        have HV := Lib.hid (show insV (nums s) = match (endP ((nums b).drop 5)) with
            | some i => (strOfNums (((nums b).drop 5).take i), true)
            | none => (⟨#[]⟩, false) by
          rw [hiv]; unfold insB
          rw [if_pos ⟨h1, by rw [hd5, List.head?_cons, Option.map_some, hwc]⟩]
          cases endP ((nums b).drop 5) <;> rfl)
        have HW := Lib.hid (fun u => by have h := ref07_white c u; rw [hwc] at h; exact h)
        clear h1 hiv nb hc5 hd5 hwc
        rcases hcase with ⟨hs2, rfl⟩ | ⟨hs2, hb⟩
        all_goals
          go_enter Tryz.func110, Tryz.ntmps110
          go_wp2_with fail
          refine (H1.out _).mono ?_
          rintro e w' ⟨rfl, rfl⟩
          go_wp2_with fail
          refine (HW.out _).mono ?_
          rintro e w' ⟨rfl, rfl⟩
          go_wp2_with fail
          go_loop [4] (fun i => ∃ k : Nat, i = .int .i64 k ∧ 5 ≤ k ∧ k ≤ b.size ∧ Hid (endP ((nums b).drop 5) = (endP ((nums b).drop k)).map (· + (k - 5)))) (fun i => b.size - (intOf i).toNat)
          case atStart => exact ⟨5, rfl, by omega, by omega, Lib.hid (by simp)⟩
          case round =>
            obtain ⟨k, rfl, hk5, hkl, HQ⟩ := hrel
            by_cases hlt : k + 1 < b.size
            · obtain ⟨x, hx⟩ : ∃ c : Int, (b[k].toNat : Int) = c := ⟨_, rfl⟩
              obtain ⟨y, hy⟩ : ∃ c : Int, (b[k + 1].toNat : Int) = c := ⟨_, rfl⟩
              have hix1 := index_str b k (by omega) x k hx rfl
              have hix2 := index_str b (k + 1) hlt y ((k : Int) + 1) hy (by omega)
              have hdk := nums_drop b k (by omega)
              have hdk1 := nums_drop b (k + 1) hlt
              rw [hx] at hdk
              rw [hy] at hdk1
              by_cases hxy : x = 63 ∧ y = 62
              · obtain ⟨rfl, rfl⟩ := hxy
                have HE := Lib.hid (show endP ((nums b).drop 5) = some (k - 5) by rw [HQ.out, hdk, endP, if_pos ⟨rfl, by rw [hdk1]; rfl⟩]; simp)
                have HX := Lib.hid (show b.extract 5 k = strOfNums (((nums b).drop 5).take (k - 5)) from ext_strD b 5 k)
                have hkk : (k : Int) ≤ (b.size : Int) := by omega
                have hkk5 : (5 : Int) ≤ (k : Int) := by omega
                clear hx hy hdk hdk1
                go_wp2_with fail
                go_ret2
                exact ⟨by show Ending.returned (.tuple #[.string (b.extract 5 k), .bool true]) = _; rw [HV.out, HE.out, HX.out], rfl⟩
              · have HQ2 := Lib.hid (show endP ((nums b).drop 5) = (endP ((nums b).drop (k + 1))).map (· + (k + 1 - 5)) by
                  rw [HQ.out, hdk, endP, if_neg (fun e => hxy ⟨e.1, by have := e.2; rw [hdk1] at this; simpa using this⟩), Option.map_map]
                  congr 1
                  funext i
                  simp only [Function.comp]
                  omega)
                have hxy' : (x == 63) = false ∨ ((x == 63) = true ∧ (y == 62) = false) := by
                  by_cases e : x = 63
                  · exact .inr ⟨by simpa using e, by simpa using fun e2 => hxy ⟨e, e2⟩⟩
                  · exact .inl (by simpa using e)
                clear hx hy hdk hdk1 hxy
                rcases hxy' with q1 | ⟨q1, q2⟩
                all_goals
                  go_wp2_with fail
                  exact ⟨⟨k + 1, by go_num, by omega, by omega, HQ2⟩, by simp [intOf]; omega⟩
            · have HE := Lib.hid (show endP ((nums b).drop 5) = none by
                rw [HQ.out]
                cases e : endP ((nums b).drop k) with
                | none => rfl
                | some i =>
                  have := endP_lt _ _ e
                  rw [List.length_drop, nums_length] at this
                  omega)
              go_wp2_with fail
              go_ret2
              exact ⟨by rw [HV.out, HE.out] <;> rfl, rfl⟩
end Go.Proofs.YthahfoliblgegaaGreatDoor
