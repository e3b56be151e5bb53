/-
  Parts AtG of this seat's texts, in one file: contracts of functions that the law reaches, and the plain laws behind them. No condition.
-/
import Derived.Test.YteefopeclfojiaaG9
/- 
  Layer 24: the walks of the finder's methods.
 -/
namespace Go.Proofs.Yteefopeclfojiaa
open Go.RowKit
/-- an item. -/
structure Itm where
  id : ByteArray
  title : ByteArray
  link : ByteArray
  author : ByteArray
  content : ByteArray
  date : ByteArray
  kind : Int
def Itm.none : Itm := ⟨⟨#[]⟩, ⟨#[]⟩, ⟨#[]⟩, ⟨#[]⟩, ⟨#[]⟩, ⟨#[]⟩, 0⟩
def itV (x : Itm) : Array Value := #[.string x.id, .string x.title, .string x.link, .string x.author, .string x.content, .string x.date, .int .i8 x.kind]
/-- what a method does: it sets the finder's item; all else lies as it lay. -/
structure Meth (w w' : World) (fp : Nat) (l : Value) (i : Int) (x : Itm) : Prop where
  fi : FinAt w' fp l i (itV x)
  be : Below fp w w'
  sz : w.heap.size ≤ w'.heap.size
  ot : ∀ k, k < w.heap.size → k ≠ fp → w'.heap[k]? = w.heap[k]?
theorem FinAt.cell {W : World} {fp : Nat} {l : Value} {i : Int} {x : Itm} (h : FinAt W fp l i (itV x)) : RowAt W fp 91 #[l, .int .i64 i, .string x.id, .string x.title, .string x.link, .string x.author, .string x.content, .string x.date, .int .i8 x.kind] := h.2
theorem FinAt.of {W : World} {fp : Nat} {l : Value} {i : Int} {x : Itm} (h : RowAt W fp 91 #[l, .int .i64 i, .string x.id, .string x.title, .string x.link, .string x.author, .string x.content, .string x.date, .int .i8 x.kind]) : FinAt W fp l i (itV x) := ⟨rfl, h⟩
theorem RowAt.set {W : World} {b : Nat} {T : TypeId} {cs : Array Value} (h : RowAt W b T cs) (i : Nat) (v : Value) : RowAt (W.setCell ⟨b, i, none⟩ v) b T (cs.setIfInBounds i v) := heap_setCell_same W b i cs T v h
theorem Meth.refl {w : World} {fp : Nat} {l : Value} {i : Int} {x : Itm} (h : FinAt w fp l i (itV x)) : Meth w w fp l i x := ⟨h, Below.refl _ _, Nat.le_refl _, fun _ _ _ => rfl⟩
theorem Meth.up {w w' w'' : World} {fp : Nat} {l : Value} {i : Int} {x : Itm} (h : Meth w w' fp l i x) (hb : Below w'.heap.size w' w'') : Meth w w'' fp l i x :=
  ⟨h.fi.below hb, h.be.trans (hb.mono (Nat.le_of_lt h.fi.2.lt)), Nat.le_trans h.sz hb.size, fun k hk hne => (hb.block k (Nat.lt_of_lt_of_le hk h.sz)).trans (h.ot k hk hne)⟩
theorem Meth.set {w w' : World} {fp : Nat} {l : Value} {i : Int} {x y : Itm} (h : Meth w w' fp l i x) (j : Nat) (u : Value) (hy : (#[l, .int .i64 i] ++ itV x).setIfInBounds j u = #[l, .int .i64 i] ++ itV y) : Meth w (w'.setCell ⟨fp, j, none⟩ u) fp l i y :=
  ⟨⟨rfl, hy ▸ h.fi.2.set j u⟩, h.be.setCell (p := ⟨fp, j, none⟩) (Nat.le_refl _) _, by simp; exact h.sz, fun k hk hne => (heap_setCell_other w' ⟨fp, j, none⟩ k u (fun e => hne e)).trans (h.ot k hk hne)⟩
theorem Meth.fev {w w' : World} {fp : Nat} {l : Value} {i : Int} {x : Itm} {B : Nat} {es : List Evt} {v : Value} (h : Meth w w' fp l i x) (hE : FEv B es v w) (hB : B ≤ fp) : FEv B es v w' := ⟨hE.r.below h.be hB, Nat.le_trans hE.hB h.sz, hE.n, hE.z, hE.t, hE.c⟩
theorem Meth.trans {w w' w'' : World} {fp : Nat} {l : Value} {i : Int} {x y : Itm} (h : Meth w w' fp l i x) (k : Meth w' w'' fp l i y) : Meth w w'' fp l i y :=
  ⟨k.fi, h.be.trans k.be, Nat.le_trans h.sz k.sz, fun a ha hne => (k.ot a (Nat.lt_of_lt_of_le ha h.sz) hne).trans (h.ot a ha hne)⟩
/-- what the walks of methods read. -/
theorem Meth.free {w w' : World} {fp : Nat} {l : Value} {i : Int} {x : Itm} (h : Meth w w' fp l i x) (j : Nat) : w'.frozen? ⟨fp, j, none⟩ = false := h.fi.2.blk.free j
theorem Meth.at {w w' : World} {fp : Nat} {l : Value} {i : Int} {x : Itm} (h : Meth w w' fp l i x) (j : Nat) {u : Value} (hj : (#[l, .int .i64 i] ++ itV x)[j]? = some u) : w'.cell? ⟨fp, j, none⟩ = some u := h.fi.2.blk.cell j hj
set_option maxRecDepth 100000 in
set_option maxHeartbeats 4000000 in
theorem finder_id (B : Nat) (es : List Evt) (v : Value) (fp : Nat) (i : Int) (x : Itm) (nv : Array Value) (w : World) (hE : FEv B es v w) (hF : FinAt w fp v i (itV x)) (hB : B ≤ fp) :
    Calls Try.prog 99 #[.pointer (some ⟨fp, 0, none⟩), .agg nv] w fun r w' => r = .returned (.tuple #[]) ∧ Meth w w' fp v i { x with id := txtOf es i (spA, ⟨#[105, 100]⟩) } := by
  have FT := Lib.hid (fun (nm : ByteArray × ByteArray) (u : World) (y : Itm) (M : Meth w u fp v i y) => finder_text B es v fp i (itV y) nm u (M.fev hE hB) M.fi)
  have HN := Lib.hid atom_Name
  have hb0 := (Below.refl w.heap.size w).alloc (Nat.le_refl _) (.cells nv 24)
  have M0 := (Meth.refl hF).up hb0
  clear hE hF
  go_enter Try.func99, Try.ntmps99
  go_wp2_with (first
          | (go_at_call 31; refine (HN.out _ _).mono ?_; rintro e w2 ⟨rfl, hb2⟩; have M0 := M0.up hb2)
          | (go_at_call 109; refine (FT.out (spA, _) _ _ M0).mono ?_; rintro e w3 ⟨rfl, hb4⟩; have M1 := M0.up hb4; have q0 := M1.free 2; have q1 := M1.at 2 rfl))
  go_end0
  exact ⟨rfl, M1.set 2 _ rfl⟩
set_option maxRecDepth 100000 in
set_option maxHeartbeats 4000000 in
theorem finder_title (B : Nat) (es : List Evt) (v : Value) (fp : Nat) (i : Int) (x : Itm) (nv : Array Value) (w : World) (hE : FEv B es v w) (hF : FinAt w fp v i (itV x)) (hB : B ≤ fp) :
    Calls Try.prog 100 #[.pointer (some ⟨fp, 0, none⟩), .agg nv] w fun r w' => r = .returned (.tuple #[]) ∧ Meth w w' fp v i { x with title := txtOf es i (spA, ⟨#[116, 105, 116, 108, 101]⟩) } := by
  have FT := Lib.hid (fun (nm : ByteArray × ByteArray) (u : World) (y : Itm) (M : Meth w u fp v i y) => finder_text B es v fp i (itV y) nm u (M.fev hE hB) M.fi)
  have HN := Lib.hid atom_Name
  have hb0 := (Below.refl w.heap.size w).alloc (Nat.le_refl _) (.cells nv 24)
  have M0 := (Meth.refl hF).up hb0
  clear hE hF
  go_enter Try.func100, Try.ntmps100
  go_wp2_with (first
          | (go_at_call 31; refine (HN.out _ _).mono ?_; rintro e w2 ⟨rfl, hb2⟩; have M0 := M0.up hb2)
          | (go_at_call 109; refine (FT.out (spA, _) _ _ M0).mono ?_; rintro e w3 ⟨rfl, hb4⟩; have M1 := M0.up hb4; have q0 := M1.free 3; have q1 := M1.at 3 rfl))
  go_end0
  exact ⟨rfl, M1.set 3 _ rfl⟩
set_option maxRecDepth 100000 in
set_option maxHeartbeats 4000000 in
theorem finder_links (B : Nat) (es : List Evt) (v : Value) (fp : Nat) (i : Int) (x : Itm) (nv : Array Value) (w : World) (hE : FEv B es v w) (hF : FinAt w fp v i (itV x)) (hB : B ≤ fp) :
    Calls Try.prog 101 #[.pointer (some ⟨fp, 0, none⟩), .agg nv] w fun r w' => r = .returned (.tuple #[]) ∧ Meth w w' fp v i { x with link := linkP es i } := by
  have FL := Lib.hid (fun (u : World) (y : Itm) (M : Meth w u fp v i y) => finder_link B es v fp i (itV y) u (M.fev hE hB) M.fi)
  have hb0 := (Below.refl w.heap.size w).alloc (Nat.le_refl _) (.cells nv 24)
  have M0 := (Meth.refl hF).up hb0
  clear hE hF
  go_enter Try.func101, Try.ntmps101
  go_wp2_with (first
          | (go_at_call 79; refine (FL.out _ _ M0).mono ?_; rintro e w3 ⟨rfl, hb4⟩; have M1 := M0.up hb4; have q0 := M1.free 4; have q1 := M1.at 4 rfl))
  go_end0
  exact ⟨rfl, M1.set 4 _ rfl⟩
def headP (es : List Evt) (i : Int) (x : Itm) : Itm := { x with date := (dateP es i [⟨#[117, 112, 100, 97, 116, 101, 100]⟩]).1, kind := (dateP es i [⟨#[117, 112, 100, 97, 116, 101, 100]⟩]).2, author := (authorP es i).getD ⟨#[]⟩ }
theorem StrsAt.of {w : World} {q : Nat} {ns : List ByteArray} {T : TypeId} (h : RowAt w q T (ns.map .string).toArray) : StrsAt w (.slice (some ⟨q, 0, none⟩) ns.length ns.length) ns :=
  ⟨_, _, rfl, fun k hk => ⟨q, 0, rfl, h.lt, by rw [Nat.zero_add]; exact h.blk.cell k (by simp [hk])⟩⟩
set_option maxRecDepth 100000 in
set_option maxHeartbeats 4000000 in
theorem finder_head (B : Nat) (es : List Evt) (v : Value) (fp : Nat) (i : Int) (x : Itm) (nv : Array Value) (w : World) (hE : FEv B es v w) (hF : FinAt w fp v i (itV x)) (hB : B ≤ fp) :
    Calls Try.prog 102 #[.pointer (some ⟨fp, 0, none⟩), .agg nv] w fun r w' => r = .returned (.tuple #[]) ∧ Meth w w' fp v i (headP es i x) := by
  have FD := Lib.hid (fun (u : World) (y : Itm) (nw : Value) (ns : List ByteArray) (M : Meth w u fp v i y) (hN : StrsAt u nw ns) (hl : ns.length ≤ 1000) => finder_date B es v fp i (itV y) ns nw u (M.fev hE hB) M.fi hN hl)
  have FA := Lib.hid (fun (u : World) (y : Itm) (M : Meth w u fp v i y) => finder_author B es v fp i (itV y) u (M.fev hE hB) M.fi)
  have hb0 := (Below.refl w.heap.size w).alloc (Nat.le_refl _) (.cells nv 24)
  have hb1 := hb0.alloc hb0.size (.cells #[.string ⟨#[117, 112, 100, 97, 116, 101, 100]⟩] 9)
  have M0 := (Meth.refl hF).up hb1
  have N0 := StrsAt.of (ns := [⟨#[117, 112, 100, 97, 116, 101, 100]⟩]) (RowAt.new (w.alloc (.cells nv 24)) #[.string ⟨#[117, 112, 100, 97, 116, 101, 100]⟩] 9)
  simp only [World.size_alloc, List.length_cons, List.length_nil, Nat.zero_add] at N0
  clear hE hF hb0 hb1
  go_enter Try.func102, Try.ntmps102
  go_wp2_with (first
    | (go_at_call 77; refine (FD.out _ _ _ _ M0 N0 (by decide)).mono ?_; rintro e w3 ⟨rfl, hb4⟩; have M1 := M0.up hb4; have q0 := M1.free 7; have q1 := M1.at 7 rfl; have q2 := M1.free 8; have q3 := M1.at 8 rfl; have M2 := (M1.set 7 (.string (dateP es i [⟨#[117, 112, 100, 97, 116, 101, 100]⟩]).1) (y := { x with date := (dateP es i [⟨#[117, 112, 100, 97, 116, 101, 100]⟩]).1 }) rfl).set 8 (.int .i8 (dateP es i [⟨#[117, 112, 100, 97, 116, 101, 100]⟩]).2) (y := { x with date := (dateP es i [⟨#[117, 112, 100, 97, 116, 101, 100]⟩]).1, kind := (dateP es i [⟨#[117, 112, 100, 97, 116, 101, 100]⟩]).2 }) rfl)
    | (go_at_call 124; refine (FA.out _ _ M2).mono ?_; rintro e w5 ⟨rfl, hb5⟩; have M3 := M2.up hb5; have q0 := M3.free 5; have q1 := M3.at 5 rfl))
  go_end0
  exact ⟨rfl, M3.set 5 _ rfl⟩
def contP (es : List Evt) (i : Int) : ByteArray := if emptyB (txtOf es i (spA, ⟨#[99, 111, 110, 116, 101, 110, 116]⟩)) then txtOf es i (spA, ⟨#[115, 117, 109, 109, 97, 114, 121]⟩) else txtOf es i (spA, ⟨#[99, 111, 110, 116, 101, 110, 116]⟩)
def whoP (es : List Evt) (i : Int) : ByteArray := (authorP es i).getD (txtOf es i (spC, ⟨#[99, 114, 101, 97, 116, 111, 114]⟩))
def entryP (es : List Evt) (i : Int) (x : Itm) : Itm := { x with date := (dateP es i [⟨#[117, 112, 100, 97, 116, 101, 100]⟩, ⟨#[112, 117, 98, 108, 105, 115, 104, 101, 100]⟩]).1, kind := (dateP es i [⟨#[117, 112, 100, 97, 116, 101, 100]⟩, ⟨#[112, 117, 98, 108, 105, 115, 104, 101, 100]⟩]).2, author := whoP es i, content := contP es i }
set_option maxRecDepth 100000 in
set_option maxHeartbeats 8000000 in
theorem finder_entry (B : Nat) (es : List Evt) (v : Value) (fp : Nat) (i : Int) (x : Itm) (nv : Array Value) (w : World) (hE : FEv B es v w) (hF : FinAt w fp v i (itV x)) (hB : B ≤ fp) :
    Calls Try.prog 103 #[.pointer (some ⟨fp, 0, none⟩), .agg nv] w fun r w' => r = .returned (.tuple #[]) ∧ Meth w w' fp v i (entryP es i x) := by
  have FD := Lib.hid (fun (u : World) (y : Itm) (nw : Value) (ns : List ByteArray) (M : Meth w u fp v i y) (hN : StrsAt u nw ns) (hl : ns.length ≤ 1000) => finder_date B es v fp i (itV y) ns nw u (M.fev hE hB) M.fi hN hl)
  have FA := Lib.hid (fun (u : World) (y : Itm) (M : Meth w u fp v i y) => finder_author B es v fp i (itV y) u (M.fev hE hB) M.fi)
  have FT := Lib.hid (fun (nm : ByteArray × ByteArray) (u : World) (y : Itm) (M : Meth w u fp v i y) => finder_text B es v fp i (itV y) nm u (M.fev hE hB) M.fi)
  have HN := Lib.hid atom_Name
  have HC := Lib.hid atom_Core
  have hb0 := (Below.refl w.heap.size w).alloc (Nat.le_refl _) (.cells nv 24)
  have hb1 := hb0.alloc hb0.size (.cells #[.string ⟨#[117, 112, 100, 97, 116, 101, 100]⟩, .string ⟨#[112, 117, 98, 108, 105, 115, 104, 101, 100]⟩] 9)
  have M0 := (Meth.refl hF).up hb1
  have N0 := StrsAt.of (ns := [⟨#[117, 112, 100, 97, 116, 101, 100]⟩, ⟨#[112, 117, 98, 108, 105, 115, 104, 101, 100]⟩]) (RowAt.new (w.alloc (.cells nv 24)) #[.string ⟨#[117, 112, 100, 97, 116, 101, 100]⟩, .string ⟨#[112, 117, 98, 108, 105, 115, 104, 101, 100]⟩] 9)
  simp only [World.size_alloc, List.length_cons, List.length_nil, Nat.zero_add] at N0
  clear hE hF hb0 hb1
  obtain ⟨D, hD⟩ : ∃ d, dateP es i [⟨#[117, 112, 100, 97, 116, 101, 100]⟩, ⟨#[112, 117, 98, 108, 105, 115, 104, 101, 100]⟩] = d := ⟨_, rfl⟩
  obtain ⟨A, hA⟩ : ∃ d, authorP es i = d := ⟨_, rfl⟩
  obtain ⟨C, hC⟩ : ∃ d, txtOf es i (spA, ⟨#[99, 111, 110, 116, 101, 110, 116]⟩) = d := ⟨_, rfl⟩
  obtain ⟨S, hS⟩ : ∃ d, txtOf es i (spA, ⟨#[115, 117, 109, 109, 97, 114, 121]⟩) = d := ⟨_, rfl⟩
  obtain ⟨R, hR⟩ : ∃ d, txtOf es i (spC, ⟨#[99, 114, 101, 97, 116, 111, 114]⟩) = d := ⟨_, rfl⟩
  unfold entryP contP whoP
  have f1 := FT.out (spA, ⟨#[99, 111, 110, 116, 101, 110, 116]⟩)
  have f2 := FT.out (spA, ⟨#[115, 117, 109, 109, 97, 114, 121]⟩)
  have f3 := FT.out (spC, ⟨#[99, 114, 101, 97, 116, 111, 114]⟩)
  have f4 := fun (u : World) (y : Itm) (M : Meth w u fp v i y) (nw : Value) (hN : StrsAt u nw [⟨#[117, 112, 100, 97, 116, 101, 100]⟩, ⟨#[112, 117, 98, 108, 105, 115, 104, 101, 100]⟩]) => FD.out u y nw _ M hN (by decide)
  rw [hC] at f1 ⊢
  rw [hS] at f2 ⊢
  rw [hR] at f3 ⊢
  rw [hD] at f4 ⊢
  have f5 := FA.out
  rw [hA] at f5 ⊢
  replace f1 := Lib.hid f1
  replace f2 := Lib.hid f2
  replace f3 := Lib.hid f3
  replace f4 := Lib.hid f4
  replace f5 := Lib.hid f5
  clear hD hA hC hS hR FT FD FA
  cases A with
  | none =>
    cases he : emptyB C with
    | true =>
      dsimp only [Option.getD]
      rw [if_pos rfl]
      dsimp only [Option.getD, Option.isSome] at f5
      go_enter Try.func103, Try.ntmps103
      go_wp2_with (first
        | (go_at_call 77; refine (f4.out _ _ M0 _ N0).mono ?_; rintro e w3 ⟨rfl, hb4⟩; have M1 := M0.up hb4; have q0 := M1.free 7; have q1 := M1.at 7 rfl; have q2 := M1.free 8; have q3 := M1.at 8 rfl; have M2 := (M1.set 7 (.string D.1) (y := { x with date := D.1 }) rfl).set 8 (.int .i8 D.2) (y := { x with date := D.1, kind := D.2 }) rfl)
        | (go_at_call 124; refine (f5.out _ _ M2).mono ?_; rintro e w5 ⟨rfl, hb5⟩; have Ma := M2.up hb5)
        | (go_at_call 33; refine (HC.out _ _).mono ?_; rintro e wb ⟨rfl, hbb⟩; have Mb := Ma.up hbb)
        | (go_at_call 31; refine (HN.out _ _).mono ?_; rintro e w6 ⟨rfl, hb6⟩; have M9 := M8.up hb6)
        | (go_at_call 109; refine (f2.out _ _ M9).mono ?_; rintro e w8 ⟨rfl, hb8⟩; have Md := M9.up hb8; have qa := Md.free 6; have qb := Md.at 6 rfl)
        | (go_at_call 31; refine (HN.out _ _).mono ?_; rintro e w6 ⟨rfl, hb6⟩; have M5 := M4.up hb6)
        | (go_at_call 109; refine (f1.out _ _ M5).mono ?_; rintro e w7 ⟨rfl, hb7⟩; have M6 := M5.up hb7; have q8 := M6.free 6; have q9 := M6.at 6 rfl; have M7 := M6.set 6 (.string C) (y := { x with date := D.1, kind := D.2, author := R, content := C }) rfl)
        | (go_at_call 110; refine (text_Empty _ _).mono ?_; rintro e wd ⟨rfl, hbd⟩; have M8 := M7.up hbd)
        | (go_at_call 109; refine (f3.out _ _ Mb).mono ?_; rintro e wc ⟨rfl, hbc⟩; have M3 := Mb.up hbc; have q4 := M3.free 5; have q5 := M3.at 5 rfl; have M4 := M3.set 5 (.string R) (y := { x with date := D.1, kind := D.2, author := R }) rfl))
      go_end0
      exact ⟨rfl, Md.set 6 _ rfl⟩
    | false =>
      dsimp only [Option.getD]
      rw [if_neg Bool.false_ne_true]
      dsimp only [Option.getD, Option.isSome] at f5
      go_enter Try.func103, Try.ntmps103
      go_wp2_with (first
        | (go_at_call 77; refine (f4.out _ _ M0 _ N0).mono ?_; rintro e w3 ⟨rfl, hb4⟩; have M1 := M0.up hb4; have q0 := M1.free 7; have q1 := M1.at 7 rfl; have q2 := M1.free 8; have q3 := M1.at 8 rfl; have M2 := (M1.set 7 (.string D.1) (y := { x with date := D.1 }) rfl).set 8 (.int .i8 D.2) (y := { x with date := D.1, kind := D.2 }) rfl)
        | (go_at_call 124; refine (f5.out _ _ M2).mono ?_; rintro e w5 ⟨rfl, hb5⟩; have Ma := M2.up hb5)
        | (go_at_call 33; refine (HC.out _ _).mono ?_; rintro e wb ⟨rfl, hbb⟩; have Mb := Ma.up hbb)
        | (go_at_call 31; refine (HN.out _ _).mono ?_; rintro e w6 ⟨rfl, hb6⟩; have M5 := M4.up hb6)
        | (go_at_call 109; refine (f1.out _ _ M5).mono ?_; rintro e w7 ⟨rfl, hb7⟩; have M6 := M5.up hb7; have q8 := M6.free 6; have q9 := M6.at 6 rfl; have M7 := M6.set 6 (.string C) (y := { x with date := D.1, kind := D.2, author := R, content := C }) rfl)
        | (go_at_call 110; refine (text_Empty _ _).mono ?_; rintro e wd ⟨rfl, hbd⟩; have M8 := M7.up hbd)
        | (go_at_call 109; refine (f3.out _ _ Mb).mono ?_; rintro e wc ⟨rfl, hbc⟩; have M3 := Mb.up hbc; have q4 := M3.free 5; have q5 := M3.at 5 rfl; have M4 := M3.set 5 (.string R) (y := { x with date := D.1, kind := D.2, author := R }) rfl))
      go_end0
      exact ⟨rfl, M8⟩
  | some A =>
    cases he : emptyB C with
    | true =>
      dsimp only [Option.getD]
      rw [if_pos rfl]
      dsimp only [Option.getD, Option.isSome] at f5
      go_enter Try.func103, Try.ntmps103
      go_wp2_with (first
        | (go_at_call 77; refine (f4.out _ _ M0 _ N0).mono ?_; rintro e w3 ⟨rfl, hb4⟩; have M1 := M0.up hb4; have q0 := M1.free 7; have q1 := M1.at 7 rfl; have q2 := M1.free 8; have q3 := M1.at 8 rfl; have M2 := (M1.set 7 (.string D.1) (y := { x with date := D.1 }) rfl).set 8 (.int .i8 D.2) (y := { x with date := D.1, kind := D.2 }) rfl)
        | (go_at_call 124; refine (f5.out _ _ M2).mono ?_; rintro e w5 ⟨rfl, hb5⟩; have M3 := M2.up hb5; have q4 := M3.free 5; have q5 := M3.at 5 rfl; have M4 := M3.set 5 (.string A) (y := { x with date := D.1, kind := D.2, author := A }) rfl)
        | (go_at_call 31; refine (HN.out _ _).mono ?_; rintro e w6 ⟨rfl, hb6⟩; have M9 := M8.up hb6)
        | (go_at_call 109; refine (f2.out _ _ M9).mono ?_; rintro e w8 ⟨rfl, hb8⟩; have Md := M9.up hb8; have qa := Md.free 6; have qb := Md.at 6 rfl)
        | (go_at_call 31; refine (HN.out _ _).mono ?_; rintro e w6 ⟨rfl, hb6⟩; have M5 := M4.up hb6)
        | (go_at_call 109; refine (f1.out _ _ M5).mono ?_; rintro e w7 ⟨rfl, hb7⟩; have M6 := M5.up hb7; have q8 := M6.free 6; have q9 := M6.at 6 rfl; have M7 := M6.set 6 (.string C) (y := { x with date := D.1, kind := D.2, author := A, content := C }) rfl)
        | (go_at_call 110; refine (text_Empty _ _).mono ?_; rintro e wd ⟨rfl, hbd⟩; have M8 := M7.up hbd))
      go_end0
      exact ⟨rfl, Md.set 6 _ rfl⟩
    | false =>
      dsimp only [Option.getD]
      rw [if_neg Bool.false_ne_true]
      dsimp only [Option.getD, Option.isSome] at f5
      go_enter Try.func103, Try.ntmps103
      go_wp2_with (first
        | (go_at_call 77; refine (f4.out _ _ M0 _ N0).mono ?_; rintro e w3 ⟨rfl, hb4⟩; have M1 := M0.up hb4; have q0 := M1.free 7; have q1 := M1.at 7 rfl; have q2 := M1.free 8; have q3 := M1.at 8 rfl; have M2 := (M1.set 7 (.string D.1) (y := { x with date := D.1 }) rfl).set 8 (.int .i8 D.2) (y := { x with date := D.1, kind := D.2 }) rfl)
        | (go_at_call 124; refine (f5.out _ _ M2).mono ?_; rintro e w5 ⟨rfl, hb5⟩; have M3 := M2.up hb5; have q4 := M3.free 5; have q5 := M3.at 5 rfl; have M4 := M3.set 5 (.string A) (y := { x with date := D.1, kind := D.2, author := A }) rfl)
        | (go_at_call 31; refine (HN.out _ _).mono ?_; rintro e w6 ⟨rfl, hb6⟩; have M5 := M4.up hb6)
        | (go_at_call 109; refine (f1.out _ _ M5).mono ?_; rintro e w7 ⟨rfl, hb7⟩; have M6 := M5.up hb7; have q8 := M6.free 6; have q9 := M6.at 6 rfl; have M7 := M6.set 6 (.string C) (y := { x with date := D.1, kind := D.2, author := A, content := C }) rfl)
        | (go_at_call 110; refine (text_Empty _ _).mono ?_; rintro e wd ⟨rfl, hbd⟩; have M8 := M7.up hbd))
      go_end0
      exact ⟨rfl, M8⟩
end Go.Proofs.Yteefopeclfojiaa
