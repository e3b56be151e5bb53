/-
  Parts AtI AtH AtT AtJ AtK of this seat's texts, in one file: contracts of functions that the law reaches, and the plain laws behind them. No condition.
-/
import Derived.Test.YteefopeclfojiaaG10
import Derived.Deep.RegionWith
import Derived.Test.YteefopeclfojiaaG6
import Derived.Test.YteefopeclfojiaaG2
import Derived.Deep.DrawnRows
import Derived.Deep.CutBlock
import Derived.Deep.DeepCutAuto
import Derived.Test.YteefopeclfojiaaG11
/- 
  Layer 24: the walks of element, Is, Link, Date.
 -/
namespace Go.Proofs.Yteefopeclfojiaa
open Go.RowKit
def feedN : ByteArray × ByteArray := (spA, ⟨#[102, 101, 101, 100]⟩)
def entryN : ByteArray × ByteArray := (spA, ⟨#[101, 110, 116, 114, 121]⟩)
set_option maxRecDepth 100000 in
set_option maxHeartbeats 2000000 in
theorem atom_element (B : Nat) (es : List Evt) (v : Value) (i : Int) (w : World) (hr : EvsR B w v es) (hB : B ≤ w.heap.size) (hn : es.length ≤ 1000000) (hz : ∀ e ∈ es, e.at_.length ≤ 140737488351232) :
    Calls Try.prog 76 #[v, .int .i64 i] w fun r w' => r = .returned (.bool (atP es i).isSome) ∧ Below w.heap.size w w' := by
  have hg := events_Whole B es v w hr hB hn hz
  have hr0 := hr
  obtain ⟨avs, ⟨a, cap, rfl, -⟩, -⟩ := hr0
  obtain ⟨R, hR⟩ : ∃ R, atP es i = R := ⟨_, rfl⟩
  rw [hR]
  unfold atP at hR
  by_cases h0 : 0 ≤ i
  · obtain ⟨k, rfl⟩ : ∃ k : Nat, i = (k : Int) := ⟨i.toNat, by omega⟩
    by_cases h1 : k < es.length
    · obtain ⟨x, hx⟩ : ∃ x, es[k]? = some x := ⟨_, List.getElem?_eq_getElem h1⟩
      obtain ⟨b, off, cap', av, hv, -, c0, -⟩ := hr.get (Below.refl B w) (Nat.le_refl _) k x hx
      cases hv
      obtain ⟨n, hnn⟩ : ∃ n, es.length = n := ⟨_, rfl⟩
      rw [Int.toNat_natCast, hx] at hR
      rw [hnn] at hg hR h1 ⊢
      by_cases hk : x.k = 0
      · rw [if_pos ⟨h0, by omega, by rw [← hk]; rfl⟩] at hR
        rw [hR] at hg
        have q0 : (x.k == 0) = true := by simp [hk]
        have H := Lib.hid hg
        clear hg hR hr hx hnn hk
        go_enter Try.func76, Try.ntmps76
        go_wp2_with fail
        refine (H.out).mono ?_
        rintro r w1 ⟨rfl, hb⟩
        go_wp2_with fail
        go_ret
        exact ⟨rfl, hb⟩
      · rw [if_neg (fun h => hk (by have := h.2.2; injection this))] at hR
        subst hR
        have q0 : (x.k == 0) = false := by simpa using hk
        clear hg hr hx hnn hk
        go_enter Try.func76, Try.ntmps76
        go_wp2_with fail
        go_ret
        exact ⟨rfl, Below.refl _ _⟩
    · rw [if_neg (fun h => h1 (by omega))] at hR
      subst hR
      have q0 := decide_eq_false (show ¬ k < es.length by omega)
      clear hg hr
      go_enter Try.func76, Try.ntmps76
      go_wp2_with fail
      go_ret
      exact ⟨rfl, Below.refl _ _⟩
  · rw [if_neg (fun h => h0 h.1)] at hR
    subst hR
    have q0 := decide_eq_false (show ¬ 0 ≤ i by omega)
    clear hg hr
    go_enter Try.func76, Try.ntmps76
    go_wp2_with fail
    go_ret
    exact ⟨rfl, Below.refl _ _⟩
theorem FinAt.new (u : World) (v : Value) (i : Int) : FinAt (u.alloc (.cells #[v, .int .i64 i, .string ⟨#[]⟩, .string ⟨#[]⟩, .string ⟨#[]⟩, .string ⟨#[]⟩, .string ⟨#[]⟩, .string ⟨#[]⟩, .int .i8 0] 91)) u.heap.size v i (itV Itm.none) := ⟨rfl, RowAt.new u _ _⟩
/-- the first link of a place; nothing where there is no element. -/
def linkQ (es : List Evt) (i : Int) : ByteArray := if (atP es i).isSome then linkP es i else ⟨#[]⟩
def dateQ (es : List Evt) (i : Int) (ns : List ByteArray) : ByteArray × Int := if (atP es i).isSome then dateP es i ns else (⟨#[]⟩, 0)
set_option maxRecDepth 100000 in
set_option maxHeartbeats 2000000 in
theorem atom_Link (B : Nat) (es : List Evt) (v : Value) (i : Int) (w : World) (hE : FEv B es v w) :
    Calls Try.prog 44 #[v, .int .i64 i] w fun r w' => r = .returned (.string (linkQ es i)) ∧ Below w.heap.size w w' := by
  have hg := atom_element B es v i w hE.r hE.hB (by have := hE.n; omega) hE.z2
  have FL := Lib.hid (fun (u : World) (hb : Below w.heap.size w u) => finder_link B es v u.heap.size i (itV Itm.none) _ ((hE.below hb).below ((Below.refl _ u).alloc (Nat.le_refl _) _)) (FinAt.new u v i))
  obtain ⟨avs, ⟨a, cap, rfl, -⟩, -⟩ := id hE.r
  unfold linkQ
  obtain ⟨R, hR⟩ : ∃ R, (atP es i).isSome = R := ⟨_, rfl⟩
  rw [hR] at hg ⊢
  have H := Lib.hid hg
  clear hg hR hE
  cases R with
  | false =>
    rw [if_neg Bool.false_ne_true]
    go_enter Try.func44, Try.ntmps44
    go_wp2_with fail
    refine (H.out).mono ?_
    rintro r w1 ⟨rfl, hb⟩
    go_wp2_with fail
    go_ret
    exact ⟨rfl, hb⟩
  | true =>
    rw [if_pos rfl]
    go_enter Try.func44, Try.ntmps44
    go_wp2_with fail
    refine (H.out).mono ?_
    rintro r w1 ⟨rfl, hb⟩
    go_wp2_with fail
    refine (FL.out _ hb).mono ?_
    rintro r w2 ⟨rfl, hb2⟩
    go_wp2_with fail
    go_ret
    exact ⟨rfl, (hb.alloc hb.size _).trans (hb2.mono (by simp; have := hb.size; omega))⟩
set_option maxRecDepth 100000 in
set_option maxHeartbeats 2000000 in
theorem atom_Date (B : Nat) (es : List Evt) (v : Value) (i : Int) (ns : List ByteArray) (nv : Value) (w : World) (hE : FEv B es v w) (hN : StrsAt w nv ns) (hns : ns.length ≤ 1000) :
    Calls Try.prog 40 #[v, .int .i64 i, nv] w fun r w' => r = .returned (.tuple #[.string (dateQ es i ns).1, .int .i8 (dateQ es i ns).2]) ∧ Below w.heap.size w w' := by
  have hg := atom_element B es v i w hE.r hE.hB (by have := hE.n; omega) hE.z2
  have FD := Lib.hid (fun (u : World) (hb : Below w.heap.size w u) => finder_date B es v u.heap.size i (itV Itm.none) ns nv _ ((hE.below hb).below ((Below.refl _ u).alloc (Nat.le_refl _) _)) (FinAt.new u v i) ((hN.below hb).below ((Below.refl _ u).alloc (Nat.le_refl _) _)) hns)
  obtain ⟨avs, ⟨a, cap, rfl, -⟩, -⟩ := id hE.r
  unfold dateQ
  obtain ⟨R, hR⟩ : ∃ R, (atP es i).isSome = R := ⟨_, rfl⟩
  obtain ⟨D, hD⟩ : ∃ D, dateP es i ns = D := ⟨_, rfl⟩
  rw [hR] at hg ⊢
  rw [hD] at FD ⊢
  have H := Lib.hid hg
  clear hg hR hE hD hN
  cases R with
  | false =>
    rw [if_neg Bool.false_ne_true]
    go_enter Try.func40, Try.ntmps40
    go_wp2_with fail
    refine (H.out).mono ?_
    rintro r w1 ⟨rfl, hb⟩
    go_wp2_with fail
    go_ret2
    exact ⟨rfl, hb⟩
  | true =>
    rw [if_pos rfl]
    go_enter Try.func40, Try.ntmps40
    go_wp2_with fail
    refine (H.out).mono ?_
    rintro r w1 ⟨rfl, hb⟩
    go_wp2_with fail
    refine (FD.out _ hb).mono ?_
    rintro r w2 ⟨rfl, hb2⟩
    go_wp2_with fail
    go_ret2
    exact ⟨rfl, (hb.alloc hb.size _).trans (hb2.mono (by simp; have := hb.size; omega))⟩
/-- is it a feed? -/
def isP (es : List Evt) : Bool := (growP es).isSome && decide ((es[0]?).map Evt.n = some feedN)
theorem whole_pos {es : List Evt} (h : (growP es).isSome = true) : ∃ x, es[0]? = some x := by
  obtain ⟨g, hg⟩ := Option.isSome_iff_exists.1 h
  exact ⟨_, List.getElem?_eq_getElem (growP_last hg).2⟩
set_option maxRecDepth 100000 in
set_option maxHeartbeats 4000000 in
theorem atom_Is (B : Nat) (es : List Evt) (v : Value) (w : World) (hE : FEv B es v w) :
    Calls Try.prog 42 #[v] w fun r w' => r = .returned (.bool (isP es)) ∧ Below w.heap.size w w' := by
  have hbd : Below w.heap.size w w.drew := (Below.refl _ w).drew
  have hg := events_Whole B es v w.drew (hE.below hbd).r (hE.below hbd).hB (by have := hE.n; omega) hE.z2
  have HN := Lib.hid atom_Name
  unfold isP
  obtain ⟨avs, ⟨a, cap, rfl, -⟩, -⟩ := id hE.r
  cases hR : (growP es).isSome with
  | false =>
    rw [hR] at hg
    have H := Lib.hid hg
    clear hg hR hE HN
    go_enter Try.func42, Try.ntmps42
    go_wp2_with fail
    first | go_region_with (go_at_call 16; refine (H.out).mono ?_; rintro r w1 ⟨rfl, hb⟩) | fail
    all_goals
      go_wp2_with fail
      go_ret
      exact ⟨rfl, hbd.trans hb⟩
  | true =>
    obtain ⟨x, hx⟩ := whole_pos hR
    obtain ⟨b, off, cap', av, hv, hbB, -, c1, c2, -⟩ := hE.r.get (Below.refl B w) (Nat.le_refl _) 0 x hx
    cases hv
    have h0 : 0 < es.length := (List.getElem?_eq_some_iff.1 hx).1
    have hbw : b < w.heap.size := Nat.lt_of_lt_of_le hbB hE.hB
    rw [hR] at hg
    rw [hx]
    have H := Lib.hid hg
    have d1 : w.drew.cell? ⟨b, off + 0 * 5 + 1, none⟩ = some (.string x.n.1) := c1
    have d2 : w.drew.cell? ⟨b, off + 0 * 5 + 2, none⟩ = some (.string x.n.2) := c2
    rw [show off + 0 * 5 + 1 = off + 1 by omega] at c1 d1
    rw [show off + 0 * 5 + 2 = off + 1 + 1 by omega] at c2 d2
    obtain ⟨n, hn⟩ : ∃ n, es.length = n := ⟨_, rfl⟩
    rw [hn] at h0 H ⊢
    clear hg hR hE hx c1 c2 hn
    by_cases hnm : x.n = feedN
    · have t1 := toL_self spA
      have t2 := toL_self ⟨#[102, 101, 101, 100]⟩
      rw [hnm, show feedN = (spA, ⟨#[102, 101, 101, 100]⟩) from rfl] at d1 d2
      have hfin := decide_eq_true (show Option.map Evt.n (some x) = some feedN by rw [← hnm]; rfl)
      rw [hfin]
      clear hfin hnm
      go_enter Try.func42, Try.ntmps42
      go_wp2_with fail
      go_region_held3 (fun w' => w'.cell? ⟨b, off + 1, none⟩ = some (.string spA) ∧ w'.cell? ⟨b, off + 1 + 1, none⟩ = some (.string ⟨#[102, 101, 101, 100]⟩)) (first | go_keep | exact ⟨d1, d2⟩)
        (first
          | (go_at_call 16; refine (H.out).mono ?_; rintro r w1 ⟨rfl, hb⟩; have d1 := (hb.cell (p := ⟨b, off + 1, none⟩) hbw).trans d1; have d2 := (hb.cell (p := ⟨b, off + 1 + 1, none⟩) hbw).trans d2)
          | (go_at_call 31; refine (HN.out _ _).mono ?_; rintro r w2 ⟨rfl, hb2⟩; have d1 := (hb2.cell (p := ⟨b, off + 1, none⟩) (Nat.lt_of_lt_of_le hbw hb.size)).trans d1; have d2 := (hb2.cell (p := ⟨b, off + 1 + 1, none⟩) (Nat.lt_of_lt_of_le hbw hb.size)).trans d2))
      all_goals
        go_wp2_with fail
        go_ret
        exact ⟨rfl, (hbd.trans hb).trans (hb2.mono hb.size)⟩
    · have hfin := decide_eq_false (show ¬ Option.map Evt.n (some x) = some feedN from fun h => hnm (by injection h))
      rw [hfin]
      clear hfin
      rcases nm_ne hnm with g1 | ⟨g1, g2⟩
      · rw [show feedN.1 = spA from rfl] at g1
        clear hnm
        go_enter Try.func42, Try.ntmps42
        go_wp2_with fail
        go_region_held3 (fun w' => w'.cell? ⟨b, off + 1, none⟩ = some (.string x.n.1) ∧ w'.cell? ⟨b, off + 1 + 1, none⟩ = some (.string x.n.2)) (first | go_keep | exact ⟨d1, d2⟩)
        (first
          | (go_at_call 16; refine (H.out).mono ?_; rintro r w1 ⟨rfl, hb⟩; have d1 := (hb.cell (p := ⟨b, off + 1, none⟩) hbw).trans d1; have d2 := (hb.cell (p := ⟨b, off + 1 + 1, none⟩) hbw).trans d2)
          | (go_at_call 31; refine (HN.out _ _).mono ?_; rintro r w2 ⟨rfl, hb2⟩; have d1 := (hb2.cell (p := ⟨b, off + 1, none⟩) (Nat.lt_of_lt_of_le hbw hb.size)).trans d1; have d2 := (hb2.cell (p := ⟨b, off + 1 + 1, none⟩) (Nat.lt_of_lt_of_le hbw hb.size)).trans d2))
        all_goals
          go_wp2_with fail
          go_ret
          exact ⟨rfl, (hbd.trans hb).trans (hb2.mono hb.size)⟩
      · rw [show feedN.1 = spA from rfl] at g1
        rw [show feedN.2.toList = [102, 101, 101, 100] from by rw [ByteArray.toList_eq]; rfl] at g2
        clear hnm
        go_enter Try.func42, Try.ntmps42
        go_wp2_with fail
        go_region_held3 (fun w' => w'.cell? ⟨b, off + 1, none⟩ = some (.string x.n.1) ∧ w'.cell? ⟨b, off + 1 + 1, none⟩ = some (.string x.n.2)) (first | go_keep | exact ⟨d1, d2⟩)
        (first
          | (go_at_call 16; refine (H.out).mono ?_; rintro r w1 ⟨rfl, hb⟩; have d1 := (hb.cell (p := ⟨b, off + 1, none⟩) hbw).trans d1; have d2 := (hb.cell (p := ⟨b, off + 1 + 1, none⟩) hbw).trans d2)
          | (go_at_call 31; refine (HN.out _ _).mono ?_; rintro r w2 ⟨rfl, hb2⟩; have d1 := (hb2.cell (p := ⟨b, off + 1, none⟩) (Nat.lt_of_lt_of_le hbw hb.size)).trans d1; have d2 := (hb2.cell (p := ⟨b, off + 1 + 1, none⟩) (Nat.lt_of_lt_of_le hbw hb.size)).trans d2))
        all_goals
          go_wp2_with fail
          go_ret
          exact ⟨rfl, (hbd.trans hb).trans (hb2.mono hb.size)⟩
end Go.Proofs.Yteefopeclfojiaa
/- 
  Layer 24: the walk of item.
 -/
namespace Go.Proofs.Yteefopeclfojiaa
open Go.RowKit
attribute [local go_sem ↓] Go.wp_at_zero Go.wp_at_succ
/-- the fields that both have. -/
def bothP (es : List Evt) (i : Int) : Itm := { Itm.none with id := txtOf es i (spA, ⟨#[105, 100]⟩), title := txtOf es i (spA, ⟨#[116, 105, 116, 108, 101]⟩), link := linkP es i }
/-- a map of the call's own behind wr. -/
structure MapS (wr W : World) (bm : Nat) (L : List ((ByteArray × ByteArray) × Value)) : Prop where
  be : Below wr.heap.size wr W
  nm : NMap W bm L
  lo : wr.heap.size ≤ bm
theorem MapS.new {wr X : World} (h : Below wr.heap.size wr X) : MapS wr (X.alloc (.map #[] 0)) X.heap.size [] := ⟨h.alloc h.size _, NMap.made X, h.size⟩
theorem MapS.up {wr W W' : World} {bm : Nat} {L : List ((ByteArray × ByteArray) × Value)} (h : MapS wr W bm L) (hb : Below W.heap.size W W') : MapS wr W' bm L := ⟨h.be.trans (hb.mono h.be.size), h.nm.below hb (Nat.le_refl _), h.lo⟩
def gFn (fp : Nat) : Value := .func (.func 102) #[.pointer (some ⟨fp, 0, none⟩)] #[]
def eFn (fp : Nat) : Value := .func (.func 103) #[.pointer (some ⟨fp, 0, none⟩)] #[]
theorem MapS.push {wr W : World} {bm : Nat} {L : List ((ByteArray × ByteArray) × Value)} (h : MapS wr W bm L) (k : ByteArray × ByteArray) (v : Value) (hn : nGet L k = none) :
    ∃ w', (Instr.mapUpdate 122 (.map (some bm)) (nmV k) v).run Try.prog W = .ok () w' ∧ MapS wr w' bm (L ++ [(k, v)]) := by
  obtain ⟨w', h1, h2, h3⟩ := h.nm.push Try.underlying122 k v hn
  exact ⟨w', h1, h.be.grown h3 h.be.size (fun k e => by cases e; exact h.lo), h2, h.lo⟩
theorem MapS.feed {wr W : World} {bm : Nat} {L : List ((ByteArray × ByteArray) × Value)} (h : MapS wr W bm L) (fp : Nat) (hn : nGet L feedN = none) :
    ∃ w', (Instr.mapUpdate 122 (.map (some bm)) (.agg #[.string spA, .string ⟨#[102, 101, 101, 100]⟩]) (.func (.func 102) #[.pointer (some ⟨fp, 0, none⟩)] #[])).run Try.prog W = .ok () w' ∧ MapS wr w' bm (L ++ [(feedN, gFn fp)]) := h.push feedN (gFn fp) hn
theorem MapS.entry {wr W : World} {bm : Nat} {L : List ((ByteArray × ByteArray) × Value)} (h : MapS wr W bm L) (fp : Nat) (hn : nGet L entryN = none) :
    ∃ w', (Instr.mapUpdate 122 (.map (some bm)) (.agg #[.string spA, .string ⟨#[101, 110, 116, 114, 121]⟩]) (.func (.func 103) #[.pointer (some ⟨fp, 0, none⟩)] #[])).run Try.prog W = .ok () w' ∧ MapS wr w' bm (L ++ [(entryN, eFn fp)]) := h.push entryN (eFn fp) hn
theorem MapS.second {wr W : World} {bm fp : Nat} (h : MapS wr W bm [(feedN, gFn fp)]) : ∃ w', Sem.run Try.prog (Instr.mapUpdate 122 (.map (some bm)) (.agg #[.string spA, .string ⟨#[101, 110, 116, 114, 121]⟩]) (.func (.func 103) #[.pointer (some ⟨fp, 0, none⟩)] #[])) W = .ok () w' ∧ MapS wr w' bm [(feedN, gFn fp), (entryN, eFn fp)] := h.entry fp (by rfl)
theorem MapS.both {wr W : World} {bm : Nat} (h : MapS wr W bm []) (fp : Nat) : ∃ wF wE wFE wEF, Sem.run Try.prog (Instr.mapUpdate 122 (.map (some bm)) (.agg #[.string spA, .string ⟨#[102, 101, 101, 100]⟩]) (.func (.func 102) #[.pointer (some ⟨fp, 0, none⟩)] #[])) W = .ok () wF ∧ Sem.run Try.prog (Instr.mapUpdate 122 (.map (some bm)) (.agg #[.string spA, .string ⟨#[101, 110, 116, 114, 121]⟩]) (.func (.func 103) #[.pointer (some ⟨fp, 0, none⟩)] #[])) W = .ok () wE ∧ Sem.run Try.prog (Instr.mapUpdate 122 (.map (some bm)) (.agg #[.string spA, .string ⟨#[101, 110, 116, 114, 121]⟩]) (.func (.func 103) #[.pointer (some ⟨fp, 0, none⟩)] #[])) wF = .ok () wFE ∧ Sem.run Try.prog (Instr.mapUpdate 122 (.map (some bm)) (.agg #[.string spA, .string ⟨#[102, 101, 101, 100]⟩]) (.func (.func 102) #[.pointer (some ⟨fp, 0, none⟩)] #[])) wE = .ok () wEF ∧
    MapS wr wF bm [(feedN, gFn fp)] ∧ MapS wr wFE bm [(feedN, gFn fp), (entryN, eFn fp)] ∧ MapS wr wEF bm [(entryN, eFn fp), (feedN, gFn fp)] := by
  obtain ⟨wF, h1, h2⟩ := h.feed fp (by rfl)
  obtain ⟨wE, h3, h4⟩ := h.entry fp (by rfl)
  obtain ⟨wFE, h5, h6⟩ := MapS.second h2
  obtain ⟨wEF, h7, h8⟩ := h4.feed fp (by rfl)
  exact ⟨wF, wE, wFE, wEF, h1, h3, h5, h7, h2, h6, h8⟩
theorem methods_0 (w : World) : Sem.run Try.prog (Instr.index 121 (.agg #[.func (.func 99) #[] #[], .func (.func 100) #[] #[], .func (.func 101) #[] #[]]) (.int .i64 0)) w = .ok (.func (.func 99) #[] #[]) w := by kernel_rfl
theorem methods_1 (w : World) : Sem.run Try.prog (Instr.index 121 (.agg #[.func (.func 99) #[] #[], .func (.func 100) #[] #[], .func (.func 101) #[] #[]]) (.int .i64 1)) w = .ok (.func (.func 100) #[] #[]) w := by kernel_rfl
theorem methods_2 (w : World) : Sem.run Try.prog (Instr.index 121 (.agg #[.func (.func 99) #[] #[], .func (.func 100) #[] #[], .func (.func 101) #[] #[]]) (.int .i64 2)) w = .ok (.func (.func 101) #[] #[]) w := by kernel_rfl
def idP (es : List Evt) (i : Int) : Itm := { Itm.none with id := txtOf es i (spA, ⟨#[105, 100]⟩) }
def titleP (es : List Evt) (i : Int) : Itm := { Itm.none with id := txtOf es i (spA, ⟨#[105, 100]⟩), title := txtOf es i (spA, ⟨#[116, 105, 116, 108, 101]⟩) }
theorem zFun (w : World) : (zeroValue 120).run Try.prog w = .ok .nilFunc w := by kernel_rfl
theorem rest_look {W : World} {bm fp : Nat} {L : List ((ByteArray × ByteArray) × Value)} (h : NMap W bm L) (hL : L = [(feedN, gFn fp), (entryN, eFn fp)] ∨ L = [(entryN, eFn fp), (feedN, gFn fp)]) :
    Sem.run Try.prog (Instr.lookup 122 (.map (some bm)) (.agg #[.string spA, .string ⟨#[102, 101, 101, 100]⟩]) false) W = .ok (.func (.func 102) #[.pointer (some ⟨fp, 0, none⟩)] #[]) W ∧
    Sem.run Try.prog (Instr.lookup 122 (.map (some bm)) (.agg #[.string spA, .string ⟨#[101, 110, 116, 114, 121]⟩]) false) W = .ok (.func (.func 103) #[.pointer (some ⟨fp, 0, none⟩)] #[]) W := by
  have h1 := h.lookup Try.underlying122 _ (zFun W) feedN
  have h2 := h.lookup Try.underlying122 _ (zFun W) entryN
  rcases hL with rfl | rfl
  · exact ⟨h1, h2⟩
  · exact ⟨h1, h2⟩
/-- the map behind its region. -/
def RestS (wr : World) (fp : Nat) (x : Value) (wx : World) : Prop := ∃ (bm : Nat) (L : List ((ByteArray × ByteArray) × Value)), x = .map (some bm) ∧ MapS wr wx bm L ∧ (L = [(feedN, gFn fp), (entryN, eFn fp)] ∨ L = [(entryN, eFn fp), (feedN, gFn fp)])
set_option maxRecDepth 100000 in
set_option maxHeartbeats 8000000 in
theorem atom_item (B : Nat) (es : List Evt) (v : Value) (i : Nat) (e : Evt) (w : World) (hE : FEv B es v w) (he : es[i]? = some e) (hn : e.n = feedN ∨ e.n = entryN) :
    Calls Try.prog 70 #[v, .int .i64 i] w fun r w' => r = .returned (.agg (itV (if e.n = feedN then headP es i (bothP es i) else entryP es i (bothP es i)))) ∧ Below w.heap.size w w' := by
  have hb0 : Below w.heap.size w ((w.alloc (.cells #[.string ⟨#[]⟩, .string ⟨#[]⟩, .string ⟨#[]⟩, .string ⟨#[]⟩, .string ⟨#[]⟩, .string ⟨#[]⟩, .int .i8 0] 47)).alloc (.cells #[v, .int .i64 i, .string ⟨#[]⟩, .string ⟨#[]⟩, .string ⟨#[]⟩, .string ⟨#[]⟩, .string ⟨#[]⟩, .string ⟨#[]⟩, .int .i8 0] 91)) := ((Below.refl w.heap.size w).alloc (Nat.le_refl _) _).alloc (by simp) _
  obtain ⟨b, off, cap, av, rfl, hbB, x0, x1, x2, x3, x4, x5⟩ := hE.r.get hb0 hE.hB i e he
  have hlt : i < es.length := (List.getElem?_eq_some_iff.1 he).1
  have hl9 := hE.n
  rw [show off + i * 5 + 2 = off + i * 5 + 1 + 1 by omega] at x2
  clear x0 x3 x4 x5
  have F0 : FinAt ((w.alloc (.cells #[.string ⟨#[]⟩, .string ⟨#[]⟩, .string ⟨#[]⟩, .string ⟨#[]⟩, .string ⟨#[]⟩, .string ⟨#[]⟩, .int .i8 0] 47)).alloc (.cells #[.slice (some ⟨b, off, none⟩) es.length cap, .int .i64 i, .string ⟨#[]⟩, .string ⟨#[]⟩, .string ⟨#[]⟩, .string ⟨#[]⟩, .string ⟨#[]⟩, .string ⟨#[]⟩, .int .i8 0] 91)) (w.heap.size + 1) (.slice (some ⟨b, off, none⟩) es.length cap) i (itV Itm.none) := by
    have h := RowAt.new (w.alloc (.cells #[.string ⟨#[]⟩, .string ⟨#[]⟩, .string ⟨#[]⟩, .string ⟨#[]⟩, .string ⟨#[]⟩, .string ⟨#[]⟩, .int .i8 0] 47)) #[.slice (some ⟨b, off, none⟩) es.length cap, .int .i64 i, .string ⟨#[]⟩, .string ⟨#[]⟩, .string ⟨#[]⟩, .string ⟨#[]⟩, .string ⟨#[]⟩, .string ⟨#[]⟩, .int .i8 0] 91
    rw [World.size_alloc] at h
    exact ⟨rfl, h⟩
  have hb1 : Below w.heap.size w (((w.alloc (.cells #[.string ⟨#[]⟩, .string ⟨#[]⟩, .string ⟨#[]⟩, .string ⟨#[]⟩, .string ⟨#[]⟩, .string ⟨#[]⟩, .int .i8 0] 47)).alloc (.cells #[.slice (some ⟨b, off, none⟩) es.length cap, .int .i64 i, .string ⟨#[]⟩, .string ⟨#[]⟩, .string ⟨#[]⟩, .string ⟨#[]⟩, .string ⟨#[]⟩, .string ⟨#[]⟩, .int .i8 0] 91)).alloc (.cells #[.string e.n.1, .string e.n.2] 24)) := hb0.alloc hb0.size _
  have hE1 := hE.below hb1
  have M1 := Meth.refl (F0.below (((Below.refl _ ((w.alloc (.cells #[.string ⟨#[]⟩, .string ⟨#[]⟩, .string ⟨#[]⟩, .string ⟨#[]⟩, .string ⟨#[]⟩, .string ⟨#[]⟩, .int .i8 0] 47)).alloc (.cells #[.slice (some ⟨b, off, none⟩) es.length cap, .int .i64 i, .string ⟨#[]⟩, .string ⟨#[]⟩, .string ⟨#[]⟩, .string ⟨#[]⟩, .string ⟨#[]⟩, .string ⟨#[]⟩, .int .i8 0] 91)))).alloc (Nat.le_refl _) (.cells #[.string e.n.1, .string e.n.2] 24)))
  have bn : RowAt (((w.alloc (.cells #[.string ⟨#[]⟩, .string ⟨#[]⟩, .string ⟨#[]⟩, .string ⟨#[]⟩, .string ⟨#[]⟩, .string ⟨#[]⟩, .int .i8 0] 47)).alloc (.cells #[.slice (some ⟨b, off, none⟩) es.length cap, .int .i64 i, .string ⟨#[]⟩, .string ⟨#[]⟩, .string ⟨#[]⟩, .string ⟨#[]⟩, .string ⟨#[]⟩, .string ⟨#[]⟩, .int .i8 0] 91)).alloc (.cells #[.string e.n.1, .string e.n.2] 24)) (w.heap.size + 2) 24 #[.string e.n.1, .string e.n.2] := by
    have h := RowAt.new ((w.alloc (.cells #[.string ⟨#[]⟩, .string ⟨#[]⟩, .string ⟨#[]⟩, .string ⟨#[]⟩, .string ⟨#[]⟩, .string ⟨#[]⟩, .int .i8 0] 47)).alloc (.cells #[.slice (some ⟨b, off, none⟩) es.length cap, .int .i64 i, .string ⟨#[]⟩, .string ⟨#[]⟩, .string ⟨#[]⟩, .string ⟨#[]⟩, .string ⟨#[]⟩, .string ⟨#[]⟩, .int .i8 0] 91)) #[.string e.n.1, .string e.n.2] 24
    simp only [World.size_alloc] at h
    exact h
  have hB : B ≤ w.heap.size + 1 := Nat.le_succ_of_le hE.hB
  have sz : (((w.alloc (.cells #[.string ⟨#[]⟩, .string ⟨#[]⟩, .string ⟨#[]⟩, .string ⟨#[]⟩, .string ⟨#[]⟩, .string ⟨#[]⟩, .int .i8 0] 47)).alloc (.cells #[.slice (some ⟨b, off, none⟩) es.length cap, .int .i64 i, .string ⟨#[]⟩, .string ⟨#[]⟩, .string ⟨#[]⟩, .string ⟨#[]⟩, .string ⟨#[]⟩, .string ⟨#[]⟩, .int .i8 0] 91)).alloc (.cells #[.string e.n.1, .string e.n.2] 24)).heap.size = w.heap.size + 3 := by simp
  have rb : RowAt (((w.alloc (.cells #[.string ⟨#[]⟩, .string ⟨#[]⟩, .string ⟨#[]⟩, .string ⟨#[]⟩, .string ⟨#[]⟩, .string ⟨#[]⟩, .int .i8 0] 47)).alloc (.cells #[.slice (some ⟨b, off, none⟩) es.length cap, .int .i64 i, .string ⟨#[]⟩, .string ⟨#[]⟩, .string ⟨#[]⟩, .string ⟨#[]⟩, .string ⟨#[]⟩, .string ⟨#[]⟩, .int .i8 0] 91)).alloc (.cells #[.string e.n.1, .string e.n.2] 24)) w.heap.size 47 #[.string ⟨#[]⟩, .string ⟨#[]⟩, .string ⟨#[]⟩, .string ⟨#[]⟩, .string ⟨#[]⟩, .string ⟨#[]⟩, .int .i8 0] := ((RowAt.new w _ _).alloc _).alloc _
  have RB := Lib.hid rb
  have BN := Lib.hid bn
  have SZ := Lib.hid sz
  clear bn sz rb
  obtain ⟨X, hX⟩ : ∃ X, (if e.n = feedN then headP es i (bothP es i) else entryP es i (bothP es i)) = X := ⟨_, rfl⟩
  rw [hX]
  have HX := Lib.hid hX
  clear hX
  go_enter Try.func70, Try.ntmps70
  go_wp2_with fail
  clear x1 x2 F0
  generalize hw1 : (((w.alloc (.cells #[.string ⟨#[]⟩, .string ⟨#[]⟩, .string ⟨#[]⟩, .string ⟨#[]⟩, .string ⟨#[]⟩, .string ⟨#[]⟩, .int .i8 0] 47)).alloc (.cells #[.slice (some ⟨b, off, none⟩) es.length cap, .int .i64 i, .string ⟨#[]⟩, .string ⟨#[]⟩, .string ⟨#[]⟩, .string ⟨#[]⟩, .string ⟨#[]⟩, .string ⟨#[]⟩, .int .i8 0] 91)).alloc (.cells #[.string e.n.1, .string e.n.2] 24)) = w1 at RB BN SZ M1 hE1 hb1 ⊢
  clear hw1 hb0
  generalize hV : Value.slice (some ⟨b, off, none⟩) es.length cap = V at M1 hE1 hE ⊢
  clear hV hE
  have FI := Lib.hid (fun (u : World) (y : Itm) (M : Meth w1 u (w.heap.size + 1) V i y) (nv : Array Value) => finder_id B es V (w.heap.size + 1) i y nv u (M.fev hE1 hB) M.fi hB)
  have FN := Lib.hid (fun (u : World) (y : Itm) (M : Meth w1 u (w.heap.size + 1) V i y) (nv : Array Value) => finder_title B es V (w.heap.size + 1) i y nv u (M.fev hE1 hB) M.fi hB)
  have FL := Lib.hid (fun (u : World) (y : Itm) (M : Meth w1 u (w.heap.size + 1) V i y) (nv : Array Value) => finder_links B es V (w.heap.size + 1) i y nv u (M.fev hE1 hB) M.fi hB)
  have CN := Lib.hid (fun (u : World) (y : Itm) (M : Meth w1 u (w.heap.size + 1) V i y) => (show RowAt u (w.heap.size + 2) 24 #[.string e.n.1, .string e.n.2] from (M.ot _ (by have := SZ.out; omega) (by omega)).trans BN.out))
  have HE1 := Lib.hid hE1
  clear hE1
  go_loopw [20] (fun v w' => (v = .int .i64 0 ∧ Meth w1 w' (w.heap.size + 1) V i Itm.none) ∨ (v = .int .i64 1 ∧ Meth w1 w' (w.heap.size + 1) V i (idP es i)) ∨ (v = .int .i64 2 ∧ Meth w1 w' (w.heap.size + 1) V i (titleP es i)) ∨ (v = .int .i64 3 ∧ Meth w1 w' (w.heap.size + 1) V i (bothP es i))) (fun v _ => 3 - (intOf v).toNat)
  case atStart => exact .inl ⟨rfl, M1⟩
  case round =>
    clear M1
    rcases hrel with ⟨rfl, M⟩ | ⟨rfl, M⟩ | ⟨rfl, M⟩ | ⟨rfl, M⟩
    · have c0 := (CN.out _ _ M).blk.cell 0 rfl
      have c1 := (CN.out _ _ M).blk.cell 1 rfl
      have hx := methods_0 wr
      go_wp2_with (go_at_call 99; refine (FI.out _ _ M _).mono ?_; rintro e w2 ⟨rfl, M2⟩; replace M2 := M.trans M2)
      go_roundw
      case rel => exact .inr (.inl ⟨rfl, M2⟩)
      case measure => simp [intOf]
    · have c0 := (CN.out _ _ M).blk.cell 0 rfl
      have c1 := (CN.out _ _ M).blk.cell 1 rfl
      have hx := methods_1 wr
      go_wp2_with (go_at_call 100; refine (FN.out _ _ M _).mono ?_; rintro e w2 ⟨rfl, M2⟩; replace M2 := M.trans M2)
      go_roundw
      case rel => exact .inr (.inr (.inl ⟨rfl, M2⟩))
      case measure => simp [intOf]
    · have c0 := (CN.out _ _ M).blk.cell 0 rfl
      have c1 := (CN.out _ _ M).blk.cell 1 rfl
      have hx := methods_2 wr
      go_wp2_with (go_at_call 101; refine (FL.out _ _ M _).mono ?_; rintro e w2 ⟨rfl, M2⟩; replace M2 := M.trans M2)
      go_roundw
      case rel => exact .inr (.inr (.inr ⟨rfl, M2⟩))
      case measure => simp [intOf]
    · have hmm := @run_makeMap Try.prog
      have HN := Lib.hid atom_Name
      have hfp : w.heap.size + 1 < wr.heap.size := by have := M.fi.2.lt; omega
      go_wp2_with fail
      have hrb : RowAt w1 w.heap.size 47 #[.string ⟨#[]⟩, .string ⟨#[]⟩, .string ⟨#[]⟩, .string ⟨#[]⟩, .string ⟨#[]⟩, .string ⟨#[]⟩, .int .i8 0] := RB.out
      generalize hfq : w.heap.size + 1 = fp at *
      have HFQ := Lib.hid hfq
      clear hfq
      go_cut [9] (fun x wx => RestS wr fp x wx)
      case first =>
        clear FI FN FL CN M
        have hrs : Below wr.heap.size wr wr.drew := (Below.refl _ _).drew
        have hms0 : MapS wr (wr.alloc (.map #[] 0)).drew wr.heap.size [] := MapS.new (X := wr.drew) hrs
        go_region_with (go_at_call 31; refine (HN.out _ _).mono ?_; rintro e w2 ⟨rfl, hb2⟩; first
          | (have hF2 := MapS.up hF hb2; obtain ⟨wS, m5, hFE⟩ := MapS.second hF2)
          | (have hms := MapS.up hms hb2; obtain ⟨wF, wE, wFE, wEF, m1, m2, m3, m4, hF, hFE, hEF⟩ := MapS.both hms fp)
          | (have hms := MapS.up hms0 hb2; obtain ⟨wF, wE, wFE, wEF, m1, m2, m3, m4, hF, hFE, hEF⟩ := MapS.both hms fp)
          | (have hms := MapS.up (MapS.new hrs) hb2; obtain ⟨wF, wE, wFE, wEF, m1, m2, m3, m4, hF, hFE, hEF⟩ := MapS.both hms fp)
          | (have hrs := hrs.trans (hb2.mono hrs.size); obtain ⟨wF, wE, wFE, wEF, m1, m2, m3, m4, hF, hFE, hEF⟩ := MapS.both (MapS.new hrs) fp))
        all_goals
          go_wp2_with fail
          go_meet
          first | exact ⟨_, _, rfl, hFE, .inl rfl⟩ | exact ⟨_, _, rfl, hEF, .inr rfl⟩
      case rest =>
        clear hmm HN FI FN FL
        obtain ⟨bm, L, rfl, hms, hL⟩ := hcut
        have Mc := M.up hms.be
        have Md := Mc.up ((Below.refl _ wc).drew)
        have hld := rest_look (fp := fp) (W := wc.drew) (hms.nm.below ((Below.refl _ wc).drew) (Nat.le_refl _)) hL
        have hrow : RowAt wc.drew (fp + 1) 24 #[.string e.n.1, .string e.n.2] := by have := CN.out _ _ Md; rwa [show w.heap.size + 2 = fp + 1 by have := HFQ.out; omega] at this
        clear hL hms Mc M CN
        go_wp2_with fail
        rcases hn with hn | hn
        · have HX2 := Lib.hid (show headP es i (bothP es i) = X by have := HX.out; rwa [if_pos hn] at this)
          rw [hn] at hrow
          have c0 : wc.drew.cell? ⟨fp + 1, 0, none⟩ = some (.string spA) := hrow.blk.cell 0 rfl
          have c1 : wc.drew.cell? ⟨fp + 1, 1, none⟩ = some (.string ⟨#[102, 101, 101, 100]⟩) := hrow.blk.cell 1 rfl
          have hl := hld.1
          clear hld hrow hn HX
          go_region_with (go_at_call 102; refine (finder_head B es V fp i (bothP es i) _ _ (Md.fev HE1.out hB) Md.fi hB).mono ?_; rintro r w4 ⟨rfl, M4⟩)
          all_goals
            have M5 := Md.trans M4
            rw [HX2.out] at M5
            have rB := RowAt.blk (show RowAt w4 w.heap.size 47 _ from (M5.ot _ (by have := SZ.out; omega) (by have := HFQ.out; omega)).trans RB.out)
            have p2 : w4.cell? ⟨fp, 2, none⟩ = some (.string X.id) := M5.at 2 rfl
            have p3 : w4.cell? ⟨fp, 3, none⟩ = some (.string X.title) := M5.at 3 rfl
            have p4 : w4.cell? ⟨fp, 4, none⟩ = some (.string X.link) := M5.at 4 rfl
            have p5 : w4.cell? ⟨fp, 5, none⟩ = some (.string X.author) := M5.at 5 rfl
            have p6 : w4.cell? ⟨fp, 6, none⟩ = some (.string X.content) := M5.at 6 rfl
            have p7 : w4.cell? ⟨fp, 7, none⟩ = some (.string X.date) := M5.at 7 rfl
            have p8 : w4.cell? ⟨fp, 8, none⟩ = some (.int .i8 X.kind) := M5.at 8 rfl
            have r0 : w4.cell? ⟨w.heap.size, 0, none⟩ = some (.string ⟨#[]⟩) := rB.cell 0 rfl
            have r1 : w4.cell? ⟨w.heap.size, 1, none⟩ = some (.string ⟨#[]⟩) := rB.cell 1 rfl
            have r2 : w4.cell? ⟨w.heap.size, 2, none⟩ = some (.string ⟨#[]⟩) := rB.cell 2 rfl
            have r3 : w4.cell? ⟨w.heap.size, 3, none⟩ = some (.string ⟨#[]⟩) := rB.cell 3 rfl
            have r4 : w4.cell? ⟨w.heap.size, 4, none⟩ = some (.string ⟨#[]⟩) := rB.cell 4 rfl
            have r5 : w4.cell? ⟨w.heap.size, 5, none⟩ = some (.string ⟨#[]⟩) := rB.cell 5 rfl
            have r6 : w4.cell? ⟨w.heap.size, 6, none⟩ = some (.int .i8 0) := rB.cell 6 rfl
            have q0 := rB.free 0
            have q1 := rB.free 1
            have q2 := rB.free 2
            have q3 := rB.free 3
            have q4 := rB.free 4
            have q5 := rB.free 5
            have q6 := rB.free 6
            clear RB BN M4 Md c0 c1 hl hrb HX2
            have HM5 := Lib.hid M5
            clear M5
            go_wp2_with fail
            refine bodyPost_ret (results_cell1 rfl _ _ _ _ _ rfl (((((((rB.set 0 _).set 1 _).set 2 _).set 3 _).set 4 _).set 5 _).set 6 _) Try.underlying47 rfl (by kernel_rfl)) rfl ⟨rfl, ?_⟩
            have hbb := hb1.trans (HM5.out.be.mono (show w.heap.size ≤ fp by have := HFQ.out; omega))
            exact ((((((hbb.setCell (Nat.le_refl _) _).setCell (Nat.le_refl _) _).setCell (Nat.le_refl _) _).setCell (Nat.le_refl _) _).setCell (Nat.le_refl _) _).setCell (Nat.le_refl _) _).setCell (Nat.le_refl _) _
        · have HX2 := Lib.hid (show entryP es i (bothP es i) = X by have := HX.out; rwa [if_neg (by rw [hn]; decide)] at this)
          rw [hn] at hrow
          have c0 : wc.drew.cell? ⟨fp + 1, 0, none⟩ = some (.string spA) := hrow.blk.cell 0 rfl
          have c1 : wc.drew.cell? ⟨fp + 1, 1, none⟩ = some (.string ⟨#[101, 110, 116, 114, 121]⟩) := hrow.blk.cell 1 rfl
          have hl := hld.2
          clear hld hrow hn HX
          go_region_with (go_at_call 103; refine (finder_entry B es V fp i (bothP es i) _ _ (Md.fev HE1.out hB) Md.fi hB).mono ?_; rintro r w4 ⟨rfl, M4⟩)
          all_goals
            have M5 := Md.trans M4
            rw [HX2.out] at M5
            have rB := RowAt.blk (show RowAt w4 w.heap.size 47 _ from (M5.ot _ (by have := SZ.out; omega) (by have := HFQ.out; omega)).trans RB.out)
            have p2 : w4.cell? ⟨fp, 2, none⟩ = some (.string X.id) := M5.at 2 rfl
            have p3 : w4.cell? ⟨fp, 3, none⟩ = some (.string X.title) := M5.at 3 rfl
            have p4 : w4.cell? ⟨fp, 4, none⟩ = some (.string X.link) := M5.at 4 rfl
            have p5 : w4.cell? ⟨fp, 5, none⟩ = some (.string X.author) := M5.at 5 rfl
            have p6 : w4.cell? ⟨fp, 6, none⟩ = some (.string X.content) := M5.at 6 rfl
            have p7 : w4.cell? ⟨fp, 7, none⟩ = some (.string X.date) := M5.at 7 rfl
            have p8 : w4.cell? ⟨fp, 8, none⟩ = some (.int .i8 X.kind) := M5.at 8 rfl
            have r0 : w4.cell? ⟨w.heap.size, 0, none⟩ = some (.string ⟨#[]⟩) := rB.cell 0 rfl
            have r1 : w4.cell? ⟨w.heap.size, 1, none⟩ = some (.string ⟨#[]⟩) := rB.cell 1 rfl
            have r2 : w4.cell? ⟨w.heap.size, 2, none⟩ = some (.string ⟨#[]⟩) := rB.cell 2 rfl
            have r3 : w4.cell? ⟨w.heap.size, 3, none⟩ = some (.string ⟨#[]⟩) := rB.cell 3 rfl
            have r4 : w4.cell? ⟨w.heap.size, 4, none⟩ = some (.string ⟨#[]⟩) := rB.cell 4 rfl
            have r5 : w4.cell? ⟨w.heap.size, 5, none⟩ = some (.string ⟨#[]⟩) := rB.cell 5 rfl
            have r6 : w4.cell? ⟨w.heap.size, 6, none⟩ = some (.int .i8 0) := rB.cell 6 rfl
            have q0 := rB.free 0
            have q1 := rB.free 1
            have q2 := rB.free 2
            have q3 := rB.free 3
            have q4 := rB.free 4
            have q5 := rB.free 5
            have q6 := rB.free 6
            clear RB BN M4 Md c0 c1 hl hrb HX2
            have HM5 := Lib.hid M5
            clear M5
            go_wp2_with fail
            refine bodyPost_ret (results_cell1 rfl _ _ _ _ _ rfl (((((((rB.set 0 _).set 1 _).set 2 _).set 3 _).set 4 _).set 5 _).set 6 _) Try.underlying47 rfl (by kernel_rfl)) rfl ⟨rfl, ?_⟩
            have hbb := hb1.trans (HM5.out.be.mono (show w.heap.size ≤ fp by have := HFQ.out; omega))
            exact ((((((hbb.setCell (Nat.le_refl _) _).setCell (Nat.le_refl _) _).setCell (Nat.le_refl _) _).setCell (Nat.le_refl _) _).setCell (Nat.le_refl _) _).setCell (Nat.le_refl _) _).setCell (Nat.le_refl _) _
end Go.Proofs.Yteefopeclfojiaa
/- 
  Layer 24 in plain terms: what is found of a tree.
 -/
namespace Go.Proofs.Yteefopeclfojiaa
open Go.RowKit
/-- the children of a name. -/
def nmdT (F : Fo) (nm : NmT) : List KidT := F.kids.filter fun T => decide (T.1 = nm)
def txtT (F : Fo) (nm : NmT) : ByteArray := match (nmdT F nm).head? with
  | none => ⟨#[]⟩
  | some T => strOfNums T.2.2.tx
def linkTK (T : KidT) : Option ByteArray := linkM (attF T.2.1 (⟨#[]⟩, ⟨#[114, 101, 108]⟩)) (attF T.2.1 (⟨#[]⟩, ⟨#[104, 114, 101, 102]⟩))
def linkT (F : Fo) : ByteArray := ((nmdT F (spA, ⟨#[108, 105, 110, 107]⟩)).findSome? linkTK).getD ⟨#[]⟩
def autTK (T : KidT) : Option ByteArray := (nmdT T.2.2 (spA, ⟨#[110, 97, 109, 101]⟩)).head?.map fun U => strOfNums U.2.2.tx
def authorT (F : Fo) : Option ByteArray := (nmdT F (spA, ⟨#[97, 117, 116, 104, 111, 114]⟩)).findSome? autTK
def dateT (F : Fo) : List ByteArray → ByteArray × Int
  | [] => if emptyB (txtT F (spC, ⟨#[100, 97, 116, 101]⟩)) then (⟨#[]⟩, 0) else (txtT F (spC, ⟨#[100, 97, 116, 101]⟩), 3)
  | n :: ns => if emptyB (txtT F (spA, n)) then dateT F ns else (txtT F (spA, n), 2)
section
variable {es : List Evt} {g : Gr} {p : Nat} {T : KidT}
theorem OnT.named (hG : growP es = some g) (h : OnT es (endO g) p T) (nm : NmT) : Both (OnT es (endO g)) (namedP es p nm) (nmdT T.2.2 nm) := by
  unfold namedP nmdT
  rw [h.kids hG]
  refine h.both.filter fun a b hab => ?_
  rw [hab.get]
  simp [evS]
theorem OnT.fst (hG : growP es = some g) (h : OnT es (endO g) p T) (nm : NmT) : OptB (OnT es (endO g)) (fstP es p nm) (nmdT T.2.2 nm).head? := by
  rw [← named_fst]
  exact (h.named hG nm).head
theorem OnT.txt (hG : growP es = some g) (h : OnT es (endO g) p T) (nm : NmT) : txtOf es p nm = txtT T.2.2 nm := by
  have h1 := h.fst hG nm
  unfold txtOf txtT
  generalize fstP es p nm = o at h1 ⊢
  generalize (nmdT T.2.2 nm).head? = q at h1 ⊢
  cases h1 with
  | none => rfl
  | some hab => simp only; rw [hab.text hG]
theorem OnT.link (hG : growP es = some g) (h : OnT es (endO g) p T) : linkP es p = linkT T.2.2 := by
  unfold linkP linkT
  rw [(h.named hG _).findSome fun a b hab => ?_]
  unfold linkK linkTK
  rw [hab.attr hG, hab.attr hG]
theorem OnT.author (hG : growP es = some g) (h : OnT es (endO g) p T) : authorP es p = authorT T.2.2 := by
  unfold authorP authorT
  refine (h.named hG _).findSome fun a b hab => ?_
  have h1 := hab.fst hG (spA, ⟨#[110, 97, 109, 101]⟩)
  unfold autK autTK
  generalize fstP es a (spA, ⟨#[110, 97, 109, 101]⟩) = o at h1 ⊢
  generalize (nmdT b.2.2 (spA, ⟨#[110, 97, 109, 101]⟩)).head? = q at h1 ⊢
  cases h1 with
  | none => rfl
  | some hab =>
    show some (strOfNums (textP es _)) = some _
    rw [hab.text hG]
theorem OnT.date (hG : growP es = some g) (h : OnT es (endO g) p T) : ∀ ns : List ByteArray, dateP es p ns = dateT T.2.2 ns
  | [] => by rw [dateP, dateT, h.txt hG]
  | n :: ns => by rw [dateP, dateT, h.txt hG, OnT.date hG h ns]
end
def bothT (F : Fo) : Itm := { Itm.none with id := txtT F (spA, ⟨#[105, 100]⟩), title := txtT F (spA, ⟨#[116, 105, 116, 108, 101]⟩), link := linkT F }
def headT (F : Fo) (x : Itm) : Itm := { x with date := (dateT F [⟨#[117, 112, 100, 97, 116, 101, 100]⟩]).1, kind := (dateT F [⟨#[117, 112, 100, 97, 116, 101, 100]⟩]).2, author := (authorT F).getD ⟨#[]⟩ }
def contT (F : Fo) : ByteArray := if emptyB (txtT F (spA, ⟨#[99, 111, 110, 116, 101, 110, 116]⟩)) then txtT F (spA, ⟨#[115, 117, 109, 109, 97, 114, 121]⟩) else txtT F (spA, ⟨#[99, 111, 110, 116, 101, 110, 116]⟩)
def whoT (F : Fo) : ByteArray := (authorT F).getD (txtT F (spC, ⟨#[99, 114, 101, 97, 116, 111, 114]⟩))
def entryT (F : Fo) (x : Itm) : Itm := { x with date := (dateT F [⟨#[117, 112, 100, 97, 116, 101, 100]⟩, ⟨#[112, 117, 98, 108, 105, 115, 104, 101, 100]⟩]).1, kind := (dateT F [⟨#[117, 112, 100, 97, 116, 101, 100]⟩, ⟨#[112, 117, 98, 108, 105, 115, 104, 101, 100]⟩]).2, author := whoT F, content := contT F }
end Go.Proofs.Yteefopeclfojiaa
/- 
  Layer 24: the walk of Feed.
 -/
namespace Go.Proofs.Yteefopeclfojiaa
open Go.RowKit
attribute [local go_sem] Oper.semAt_some
theorem wpIn_at_zeroX {F : Fence} {n : Nat} {P : Program} {o : Oper} {l : List Oper} {h : 0 < (o :: l).toArray.size} {a : Act} {w : World} {K : Act → World → Prop} {Q : Exit → Act → World → Prop} : Oper.wpIn F n P ((o :: l).toArray[0]'h) a w K Q = Oper.wpIn F n P o a w K Q := rfl
theorem wpIn_at_succX {F : Fence} {m : Nat} {P : Program} {o : Oper} {l : List Oper} {n : Nat} {h : n + 1 < (o :: l).toArray.size} {a : Act} {w : World} {K : Act → World → Prop} {Q : Exit → Act → World → Prop} : Oper.wpIn F m P ((o :: l).toArray[n + 1]'h) a w K Q = Oper.wpIn F m P (l.toArray[n]'(by simpa using h)) a w K Q := rfl
attribute [local go_sem ↓] wpIn_at_zeroX wpIn_at_succX app_veil
def entryK (es : List Evt) (k : Nat) : Itm := entryP es k (bothP es k)
/-- a feed, and whether it is one. -/
def feedQ (es : List Evt) : RawT := if isP es then ⟨3, headP es 0 (bothP es 0), (namedP es 0 entryN).map (entryK es)⟩ else rawNone
theorem feedQ_t {es : List Evt} (h : isP es = true) : feedQ es = ⟨3, headP es 0 (bothP es 0), (namedP es 0 entryN).map (entryK es)⟩ := by unfold feedQ; rw [if_pos h]
theorem feedQ_f {es : List Evt} (h : isP es = false) : feedQ es = rawNone := by unfold feedQ; rw [if_neg (by rw [h]; decide)]
theorem isP_root {es : List Evt} (h : isP es = true) : ∃ x, es[0]? = some x ∧ x.n = feedN := by
  unfold isP at h
  rw [Bool.and_eq_true] at h
  obtain ⟨x, hx⟩ := whole_pos h.1
  refine ⟨x, hx, ?_⟩
  have := of_decide_eq_true h.2
  rw [hx] at this
  injection this
/-- what lasts within the range of Feed. -/
structure FeJ (w : World) (V : Value) (R : RawT) (W : World) : Prop where
  bl : Boxed W w.heap.size 22 V
  rs : ∃ v, RowAt W (w.heap.size + 1) 50 (rawC R.fmt R.head v) ∧ OwnX (w.heap.size + 2) W v R.items
  be : Below w.heap.size w W
  sz : w.heap.size + 2 ≤ W.heap.size
theorem FeJ.up {w : World} {V : Value} {R : RawT} {W W' : World} (h : FeJ w V R W) (hb : Below W.heap.size W W') : FeJ w V R W' := by
  obtain ⟨v, h1, h2⟩ := h.rs
  exact ⟨(hb.block _ h.bl.lt).trans h.bl, ⟨v, h1.below hb h1.lt, h2.below hb (Nat.le_refl _)⟩, h.be.trans (hb.mono h.be.size), Nat.le_trans h.sz hb.size⟩
theorem FeJ.turn {w : World} {V : Value} {R : RawT} {B : Nat} (hB : w.heap.size + 2 ≤ B) {X Y : World} (h : FeJ w V R X) (ht : Turns NoMu B X Y) : FeJ w V R Y := by
  have hbl := ht.below (C := w.heap.size) (by omega) h.be.size
  obtain ⟨v, h1, h2⟩ := h.rs
  exact ⟨RowAt.turn h.bl ht (by omega), ⟨v, h1.turn ht (by omega), own_turn h2 ht⟩, h.be.trans hbl, Nat.le_trans h.sz hbl.size⟩
/-- an item more. -/
theorem fe_round {w : World} {V v : Value} {R : RawT} {W : World} (J : FeJ w V R W) (hrow : RowAt W (w.heap.size + 1) 50 (rawC R.fmt R.head v)) (hown : OwnX (w.heap.size + 2) W v R.items) {w8 : World} (hb8 : Below W.heap.size W w8) (X : Itm) (hn : R.items.length < 1000000) :
    ∃ a n c w9, w8.cell? ⟨w.heap.size + 1, 8, none⟩ = some v ∧ (w8.alloc (.cells #[.string X.id, .string X.title, .string X.link, .string X.author, .string X.content, .string X.date, .int .i8 X.kind] 47)).cell? ⟨w.heap.size + 1, 8, none⟩ = some v ∧
      (Builtin.append_ #[48, 48] 48 #[v, .slice (some ⟨w8.heap.size, 0, none⟩) 1 1]).run Try.prog (w8.alloc (.cells #[.string X.id, .string X.title, .string X.link, .string X.author, .string X.content, .string X.date, .int .i8 X.kind] 47)) = .ok (.slice a n c) w9 ∧
      w9.cell? ⟨w.heap.size + 1, 8, none⟩ = some v ∧ w9.frozen? ⟨w.heap.size + 1, 8, none⟩ = false ∧
      FeJ w V ⟨R.fmt, R.head, R.items ++ [X]⟩ (w9.setCell ⟨w.heap.size + 1, 8, none⟩ (.slice a n c)) ∧ KeepsOthers W (w9.setCell ⟨w.heap.size + 1, 8, none⟩ (.slice a n c)) ∧ KeepsT fTs W (w9.setCell ⟨w.heap.size + 1, 8, none⟩ (.slice a n c)) ∧ Below w.heap.size W (w9.setCell ⟨w.heap.size + 1, 8, none⟩ (.slice a n c)) := by
  have J8 := J.up hb8
  have hrow8 := hrow.below hb8 hrow.lt
  have hown8 := hown.below hb8 (Nat.le_refl _)
  obtain ⟨v', w9, hrun, hown9, hg⟩ := hown8.app X J8.sz hn
  obtain ⟨a, n, c, rfl⟩ := hown9.form
  have hba : Below w8.heap.size w8 (w8.alloc (.cells #[.string X.id, .string X.title, .string X.link, .string X.author, .string X.content, .string X.date, .int .i8 X.kind] 47)) := (Below.refl _ w8).alloc (Nat.le_refl _) _
  have hrowa := hrow8.alloc (.cells #[.string X.id, .string X.title, .string X.link, .string X.author, .string X.content, .string X.date, .int .i8 X.kind] 47)
  have howna : OwnX (w.heap.size + 2) (w8.alloc (.cells #[.string X.id, .string X.title, .string X.link, .string X.author, .string X.content, .string X.date, .int .i8 X.kind] 47)) v R.items := hown8.below hba (Nat.le_refl _)
  have hrow9 := grown_row howna hg hrowa (by decide)
  have hbl9 := grown_row howna hg (RowAt.alloc (show RowAt w8 w.heap.size 22 #[V] from J8.bl) (.cells #[.string X.id, .string X.title, .string X.link, .string X.author, .string X.content, .string X.date, .int .i8 X.kind] 47)) (by decide)
  have hb9 : Below w.heap.size (w8.alloc (.cells #[.string X.id, .string X.title, .string X.link, .string X.author, .string X.content, .string X.date, .int .i8 X.kind] 47)) w9 := ownBelow (base := w.heap.size + 2) howna hg (by omega) (by have := J8.sz; simp; omega)
  have hbW : Below w.heap.size W w9 := ((hb8.mono (by have := J.sz; omega)).trans (hba.mono (by have := J8.sz; omega))).trans hb9
  refine ⟨a, n, c, w9, hrow8.blk.cell 8 rfl, hrowa.blk.cell 8 rfl, hrun, hrow9.blk.cell 8 rfl, hrow9.blk.free 8, ⟨RowAt.far hbl9 (by omega) 8 _, ⟨.slice a n c, hrow9.set 8 _, hown9.setFar (by omega) 8 _⟩, (J.be.trans hbW).setCell (p := ⟨w.heap.size + 1, 8, none⟩) (Nat.le_succ _) _, ?_⟩, ?_, ?_, hbW.setCell (p := ⟨w.heap.size + 1, 8, none⟩) (Nat.le_succ _) _⟩
  · have h1 := hbW.size
    have h2 := J.sz
    simp
    omega
  · exact (((keepsOthers_belowQ hb8).trans (KeepsOthers.alloc _ _)).trans (keepsOthers_of_rowK howna hg)).trans (KeepsOthers.setCell _ _ _)
  · exact (((KeepsT.below hb8).trans (KeepsT.below hba)).trans (grown_keepsT howna hg (by decide))).trans (KeepsT.setRow hrow9 (by decide) 8 _)
def FeI (es : List Evt) (H : Itm) (w : World) (V : Value) (pre : List Nat) (W : World) : Prop := FeJ w V ⟨3, H, pre.map (entryK es)⟩ W
set_option maxRecDepth 100000 in
set_option maxHeartbeats 8000000 in
theorem atom_Feed (B : Nat) (es : List Evt) (v : Value) (w : World) (hE : FEv B es v w) :
    Calls Try.prog 35 #[v] w fun r w' => ∃ u, r = .returned (.tuple #[u, .bool (isP es)]) ∧ RawS (w.heap.size + 2) w' (feedQ es) u ∧ Below w.heap.size w w' := by
  refine (callsIn_wide (n := 6)).1 ?_
  refine callsIn_of_wp_marks Try.func35 rfl trivial ?_ rfl
  simp only [Try.ntmps35, List.size_toArray, List.length_cons, List.length_nil, Nat.reduceAdd, Nat.reduceSub, Array.replicate_succ, Array.replicate_zero, List.push_toArray, List.append_toArray, List.nil_append, List.cons_append]
  obtain ⟨avs, ⟨a, cap, rfl, -⟩, -⟩ := id hE.r
  obtain ⟨nn, hnn⟩ : ∃ n, es.length = n := ⟨_, rfl⟩
  rw [hnn] at hE ⊢
  have HNN := Lib.hid hnn
  clear hnn
  have J0 : FeJ w (.slice a nn cap) rawNone ((w.alloc (.cells #[.slice a nn cap] 22)).alloc (.cells #[.int .i8 0, .string ⟨#[]⟩, .string ⟨#[]⟩, .string ⟨#[]⟩, .string ⟨#[]⟩, .string ⟨#[]⟩, .string ⟨#[]⟩, .int .i8 0, .slice none 0 0] 50)) := by
    have h1 := RowAt.new (w.alloc (.cells #[.slice a nn cap] 22)) #[.int .i8 0, .string ⟨#[]⟩, .string ⟨#[]⟩, .string ⟨#[]⟩, .string ⟨#[]⟩, .string ⟨#[]⟩, .string ⟨#[]⟩, .int .i8 0, .slice none 0 0] 50
    rw [World.size_alloc] at h1
    exact ⟨(Boxed.new w _ _).alloc _, ⟨_, h1, OwnX.nil _ _⟩, ((Below.refl w.heap.size w).alloc (Nat.le_refl _) _).alloc (by simp) _, by simp⟩
  generalize hw1 : (w.alloc (.cells #[.slice a nn cap] 22)).alloc (.cells #[.int .i8 0, .string ⟨#[]⟩, .string ⟨#[]⟩, .string ⟨#[]⟩, .string ⟨#[]⟩, .string ⟨#[]⟩, .string ⟨#[]⟩, .int .i8 0, .slice none 0 0] 50) = w1 at J0
  have HW1 := Lib.hid hw1
  clear hw1
  have FE := Lib.hid (fun (u : World) (hu : Below w.heap.size w u) => hE.below hu)
  have HIS := Lib.hid (atom_Is B es (.slice a nn cap) w1 (FE.out _ J0.be))
  have c0 := J0.bl.cell
  rw [← HW1.out] at c0
  clear hE
  cases hR : isP es with
  | false =>
    rw [hR] at HIS
    have HF := Lib.hid (feedQ_f hR)
    clear hR
    gi_wp2_with fail
    rw [HW1.out]
    refine ⟨trivial, ?_⟩
    refine (callsIn_wide.2 HIS.out).mono ?_
    rintro r w2 ⟨rfl, hb2⟩
    have J2 := J0.up hb2
    obtain ⟨v0, hrw, hown⟩ := J2.rs
    obtain ⟨y1, y2, y3, rfl⟩ := hown.form
    have k0 : w2.cell? ⟨w.heap.size + 1, 0, none⟩ = some (.int .i8 0) := hrw.blk.cell 0 rfl
    have k1 : w2.cell? ⟨w.heap.size + 1, 1, none⟩ = some (.string ⟨#[]⟩) := hrw.blk.cell 1 rfl
    have k2 : w2.cell? ⟨w.heap.size + 1, 2, none⟩ = some (.string ⟨#[]⟩) := hrw.blk.cell 2 rfl
    have k3 : w2.cell? ⟨w.heap.size + 1, 3, none⟩ = some (.string ⟨#[]⟩) := hrw.blk.cell 3 rfl
    have k4 : w2.cell? ⟨w.heap.size + 1, 4, none⟩ = some (.string ⟨#[]⟩) := hrw.blk.cell 4 rfl
    have k5 : w2.cell? ⟨w.heap.size + 1, 5, none⟩ = some (.string ⟨#[]⟩) := hrw.blk.cell 5 rfl
    have k6 : w2.cell? ⟨w.heap.size + 1, 6, none⟩ = some (.string ⟨#[]⟩) := hrw.blk.cell 6 rfl
    have k7 : w2.cell? ⟨w.heap.size + 1, 7, none⟩ = some (.int .i8 0) := hrw.blk.cell 7 rfl
    have k8 : w2.cell? ⟨w.heap.size + 1, 8, none⟩ = some (.slice y1 y2 y3) := hrw.blk.cell 8 rfl
    have kf0 := hrw.blk.free 0
    have kf1 := hrw.blk.free 1
    have kf2 := hrw.blk.free 2
    have kf3 := hrw.blk.free 3
    have kf4 := hrw.blk.free 4
    have kf5 := hrw.blk.free 5
    have kf6 := hrw.blk.free 6
    have kf7 := hrw.blk.free 7
    have kf8 := hrw.blk.free 8
    have HBE := Lib.hid J2.be
    have HRW := Lib.hid hrw
    have HOWN := Lib.hid hown
    clear J0 J2 hrw hown hb2 HIS
    gi_wp2_with fail
    change ∃ u, (results _ _).run _ (World.setRaw w2 (w.heap.size + 1) (.int .i8 0) (.string ⟨#[]⟩) (.string ⟨#[]⟩) (.string ⟨#[]⟩) (.string ⟨#[]⟩) (.string ⟨#[]⟩) (.string ⟨#[]⟩) (.int .i8 0) (.slice y1 y2 y3)) = .ok u (World.setRaw w2 (w.heap.size + 1) (.int .i8 0) (.string ⟨#[]⟩) (.string ⟨#[]⟩) (.string ⟨#[]⟩) (.string ⟨#[]⟩) (.string ⟨#[]⟩) (.string ⟨#[]⟩) (.int .i8 0) (.slice y1 y2 y3)) ∧ _
    refine ⟨_, results_cell2 rfl _ _ _ _ _ rfl (raw_set HRW.out _ _ _ _ _ _ _ _ _).blk Try.underlying50 rfl (by kernel_rfl), _, rfl, ?_, raw_below HBE.out (Nat.le_succ _) _ _ _ _ _ _ _ _ _⟩
    rw [HF.out]
    exact ⟨.slice y1 y2 y3, rfl, raw_own HOWN.out (Nat.lt_succ_self _) _ _ _ _ _ _ _ _ _⟩
  | true =>
    rw [hR] at HIS
    have HF := Lib.hid (feedQ_t hR)
    obtain ⟨x0, hx0, hn0⟩ := isP_root hR
    have HIT := fun (u : World) (hu : Below w.heap.size w u) => atom_item B es (.slice a nn cap) 0 x0 u (FE.out u hu) hx0 (.inl hn0)
    rw [if_pos hn0] at HIT
    obtain ⟨H, hH⟩ : ∃ H, headP es 0 (bothP es 0) = H := ⟨_, rfl⟩
    have HIT2 := Lib.hid (fun (u : World) (hu : Below w.heap.size w u) => (show Calls Try.prog 70 #[.slice a nn cap, .int .i64 0] u fun r w' => r = .returned (.agg #[.string H.id, .string H.title, .string H.link, .string H.author, .string H.content, .string H.date, .int .i8 H.kind]) ∧ Below u.heap.size u w' by rw [← hH]; exact HIT u hu))
    have HH := Lib.hid hH
    clear hR HIT hx0 hn0 hH
    gi_wp2_with fail
    rw [HW1.out]
    refine ⟨trivial, ?_⟩
    refine (callsIn_wide.2 HIS.out).mono ?_
    rintro r w2 ⟨rfl, hb2⟩
    have J2 := J0.up hb2
    have c2 := J2.bl.cell
    gi_wp2_with fail
    refine ⟨trivial, ?_⟩
    refine (callsIn_wide.2 (HIT2.out _ J2.be)).mono ?_
    rintro r w3 ⟨rfl, hb3⟩
    have J3 := J2.up hb3
    have c3 := J3.bl.cell
    obtain ⟨v0, hrw, hown⟩ := J3.rs
    have k0 : w3.cell? ⟨w.heap.size + 1, 0, none⟩ = some (.int .i8 0) := hrw.blk.cell 0 rfl
    have k1 : w3.cell? ⟨w.heap.size + 1, 1, none⟩ = some (.string ⟨#[]⟩) := hrw.blk.cell 1 rfl
    have k2 : w3.cell? ⟨w.heap.size + 1, 2, none⟩ = some (.string ⟨#[]⟩) := hrw.blk.cell 2 rfl
    have k3 : w3.cell? ⟨w.heap.size + 1, 3, none⟩ = some (.string ⟨#[]⟩) := hrw.blk.cell 3 rfl
    have k4 : w3.cell? ⟨w.heap.size + 1, 4, none⟩ = some (.string ⟨#[]⟩) := hrw.blk.cell 4 rfl
    have k5 : w3.cell? ⟨w.heap.size + 1, 5, none⟩ = some (.string ⟨#[]⟩) := hrw.blk.cell 5 rfl
    have k6 : w3.cell? ⟨w.heap.size + 1, 6, none⟩ = some (.string ⟨#[]⟩) := hrw.blk.cell 6 rfl
    have k7 : w3.cell? ⟨w.heap.size + 1, 7, none⟩ = some (.int .i8 0) := hrw.blk.cell 7 rfl
    have k8 : w3.cell? ⟨w.heap.size + 1, 8, none⟩ = some (v0) := hrw.blk.cell 8 rfl
    have kf0 := hrw.blk.free 0
    have kf1 := hrw.blk.free 1
    have kf2 := hrw.blk.free 2
    have kf3 := hrw.blk.free 3
    have kf4 := hrw.blk.free 4
    have kf5 := hrw.blk.free 5
    have kf6 := hrw.blk.free 6
    have kf7 := hrw.blk.free 7
    have kf8 := hrw.blk.free 8
    have HJ3 := Lib.hid J3
    have HRW := Lib.hid hrw
    clear J0 J2 J3 hrw hown hb2 hb3 HIS HIT2 c0 c2
    gi_wp2_with fail
    have J4 : FeJ w (.slice a nn cap) ⟨3, H, []⟩ (World.setRaw w3 (w.heap.size + 1) (.int .i8 3) (.string H.id) (.string H.title) (.string H.link) (.string H.author) (.string H.content) (.string H.date) (.int .i8 H.kind) (.slice none 0 0)) :=
      ⟨raw_other HJ3.out.bl (by omega) _ _ _ _ _ _ _ _ _, ⟨.slice none 0 0, raw_set HRW.out _ _ _ _ _ _ _ _ _, OwnX.nil _ _⟩, raw_below HJ3.out.be (Nat.le_succ _) _ _ _ _ _ _ _ _ _, by rw [raw_size]; exact HJ3.out.sz⟩
    have hsz := raw_size w3 (w.heap.size + 1) (.int .i8 3) (.string H.id) (.string H.title) (.string H.link) (.string H.author) (.string H.content) (.string H.date) (.int .i8 H.kind) (.slice none 0 0)
    have HBIG := Lib.hid (show (((((((((w3.setCell ⟨w.heap.size + 1, 0, none⟩ (.int .i8 3)).setCell ⟨w.heap.size + 1, 1, none⟩ (.string H.id)).setCell ⟨w.heap.size + 1, 2, none⟩ (.string H.title)).setCell ⟨w.heap.size + 1, 3, none⟩ (.string H.link)).setCell ⟨w.heap.size + 1, 4, none⟩ (.string H.author)).setCell ⟨w.heap.size + 1, 5, none⟩ (.string H.content)).setCell ⟨w.heap.size + 1, 6, none⟩ (.string H.date)).setCell ⟨w.heap.size + 1, 7, none⟩ (.int .i8 H.kind)).setCell ⟨w.heap.size + 1, 8, none⟩ (.slice none 0 0)) = (World.setRaw w3 (w.heap.size + 1) (.int .i8 3) (.string H.id) (.string H.title) (.string H.link) (.string H.author) (.string H.content) (.string H.date) (.int .i8 H.kind) (.slice none 0 0)) from rfl)
    rw [HBIG.out]
    generalize (World.setRaw w3 (w.heap.size + 1) (.int .i8 3) (.string H.id) (.string H.title) (.string H.link) (.string H.author) (.string H.content) (.string H.date) (.int .i8 H.kind) (.slice none 0 0)) = w4 at J4 hsz ⊢
    rw [← hsz]
    clear HBIG hsz HJ3 HRW k0 k1 k2 k3 k4 k5 k6 k7 k8 kf0 kf1 kf2 kf3 kf4 kf5 kf6 kf7 kf8
    have hF5 := FinAt.new w4 (.slice a nn cap) 0
    have J5 := J4.up ((Below.refl w4.heap.size w4).alloc (Nat.le_refl _) (.cells #[.slice a nn cap, .int .i64 0, .string ⟨#[]⟩, .string ⟨#[]⟩, .string ⟨#[]⟩, .string ⟨#[]⟩, .string ⟨#[]⟩, .string ⟨#[]⟩, .int .i8 0] 91))
    obtain ⟨fp, hfp⟩ : ∃ q, w4.heap.size = q := ⟨_, rfl⟩
    rw [hfp] at hF5 ⊢
    have hfl := J4.sz
    rw [hfp] at hfl
    generalize w4.alloc (.cells #[.slice a nn cap, .int .i64 0, .string ⟨#[]⟩, .string ⟨#[]⟩, .string ⟨#[]⟩, .string ⟨#[]⟩, .string ⟨#[]⟩, .string ⟨#[]⟩, .int .i8 0] 91) = w5 at hF5 J5 ⊢
    clear hfp J4 c3
    refine ⟨trivial, ?_⟩
    refine (callsIn_wide.2 (atom_Name _ _)).mono ?_
    rintro r w6 ⟨rfl, hb6⟩
    have J6 := J5.up hb6
    have hF6 := hF5.below hb6
    clear J5 hF5 hb6
    gi_wp2_with fail
    refine ⟨trivial, ?_⟩
    refine (finder_kids_in Fence.wide _ trivial rfl _ (spA, ⟨#[101, 110, 116, 114, 121]⟩) _).mono ?_
    rintro r w7 ⟨rfl, rfl⟩
    have hT : NkAt w6.heap.size (w6.heap.size + 1) fp (.slice a nn cap) 0 (itV Itm.none) (spA, ⟨#[101, 110, 116, 114, 121]⟩) ((w6.alloc (.cells #[.pointer (some ⟨fp, 0, none⟩)] 89)).alloc (.cells #[.string spA, .string ⟨#[101, 110, 116, 114, 121]⟩] 24)) := by
      have h2 := RowAt.new (w6.alloc (.cells #[.pointer (some ⟨fp, 0, none⟩)] 89)) #[.string spA, .string ⟨#[101, 110, 116, 114, 121]⟩] 24
      rw [World.size_alloc] at h2
      exact ⟨(Boxed.new w6 _ _).alloc _, h2, hF6.1, (hF6.2.alloc _).alloc _⟩
    have hb7 : Below w6.heap.size w6 ((w6.alloc (.cells #[.pointer (some ⟨fp, 0, none⟩)] 89)).alloc (.cells #[.string spA, .string ⟨#[101, 110, 116, 114, 121]⟩] 24)) := ((Below.refl w6.heap.size w6).alloc (Nat.le_refl _) _).alloc (by simp) _
    have J7 := J6.up hb7
    have hE7 := FE.out _ J7.be
    have hs7 : ((w6.alloc (.cells #[.pointer (some ⟨fp, 0, none⟩)] 89)).alloc (.cells #[.string spA, .string ⟨#[101, 110, 116, 114, 121]⟩] 24)).heap.size = w6.heap.size + 2 := by simp
    have hs6 := J6.sz
    obtain ⟨w7, hw7⟩ : ∃ x, ((w6.alloc (.cells #[.pointer (some ⟨fp, 0, none⟩)] 89)).alloc (.cells #[.string spA, .string ⟨#[101, 110, 116, 114, 121]⟩] 24)) = x := ⟨_, rfl⟩
    rw [hw7] at hT J7 hs7 hE7 ⊢
    clear hw7 hb7 J6 hF6
    obtain ⟨q, hq⟩ : ∃ q, w6.heap.size = q := ⟨_, rfl⟩
    rw [hq] at hT hs7 hs6 ⊢
    clear hq
    gi_wp2_with fail
    refine wpIn_rangeFunc_ownP NoMu rfl (by omega) (gf := 104) (lb := #[.pointer (some ⟨q, 0, none⟩), .pointer (some ⟨q + 1, 0, none⟩)]) rfl trivial (enters_of Try.func104 (by kernel_rfl) rfl)
      (fkids_stops B es _ (by omega) q (q + 1) fp _ 0 (itV Itm.none) (spA, ⟨#[101, 110, 116, 114, 121]⟩) (by have := hE7.n; omega) hE7.z2 w7 hE7.r hE7.hB hT) (fun h k => ⟨h.1.trans k.1, h.2.trans k.2⟩) (fun W l o o' h1 h2 h3 _ => ⟨KeepsT.putObj h2 h3, below_putObj (Nat.le_trans hE7.hB h1) h2 h3⟩) (Below.refl _ _) (fun _ => rfl)
      (FeI es H w (.slice a nn cap)) (fun _ _ _ => False) (fun _ _ _ h ht => FeJ.turn (by omega) h ht) (fun _ _ _ _ h _ => h.elim)
      J7
      (fun x a' W => a' = { tmps := #[.slice a nn cap, .pointer (some ⟨w.heap.size, 0, none⟩), .pointer (some ⟨w.heap.size + 1, 0, none⟩), .bool false, .pointer (some ⟨fp, 0, none⟩), .int .i64 (x : Nat), .slice a nn cap, .bool true, .bool false, undef, .slice a nn cap, .agg #[.string H.id, .string H.title, .string H.link, .string H.author, .string H.content, .string H.date, .int .i8 H.kind], .agg #[.int .i8 3, .string H.id, .string H.title, .string H.link, .string H.author, .string H.content, .string H.date, .int .i8 H.kind, .slice none 0 0], .slice a nn cap, .agg #[.slice a nn cap, .int .i64 0, .string ⟨#[]⟩, .string ⟨#[]⟩, .string ⟨#[]⟩, .string ⟨#[]⟩, .string ⟨#[]⟩, .string ⟨#[]⟩, .int .i8 0], .pointer (some ⟨fp, 0, none⟩), .pointer (some ⟨fp, 0, none⟩), .agg #[.string spA, .string ⟨#[101, 110, 116, 114, 121]⟩], .func (.func 104) #[] #[.pointer (some ⟨q, 0, none⟩), .pointer (some ⟨q + 1, 0, none⟩)], .int .i64 (x : Nat), undef, undef, undef, undef, undef, undef, undef, undef, undef], defers := [] })
      (fun x a' _ _ _ _ h _ _ => h) ?assign ?body ?done ?stop
    case assign =>
      rintro l pre x W K hI hK
      gi_wp2
      exact hK _ _ (KeepsFrom.refl _ _) ⟨⟨Nat.le_refl _, fun k c T fz _ _ => rfl⟩, Below.refl _ _⟩ hI rfl
    case body =>
      rintro l pre x a' W hl J rfl hsp hlen
      obtain ⟨v0, hrow, hown⟩ := J.rs
      obtain ⟨y1, y2, y3, rfl⟩ := hown.form
      obtain ⟨hxl, hxn⟩ := named_mem (hsp.subset (List.mem_append_right _ (List.mem_singleton.2 rfl)))
      obtain ⟨e, he⟩ : ∃ e, es[x]? = some e := ⟨_, List.getElem?_eq_getElem hxl⟩
      rw [he] at hxn
      have hxe : e.n = entryN := by injection hxn
      have hbd : Below W.heap.size W W.drew := (Below.refl _ W).drew
      have hit := atom_item B es (.slice a nn cap) x e W.drew (FE.out _ (J.up hbd).be) he (.inr hxe)
      rw [if_neg (by rw [hxe]; decide)] at hit
      obtain ⟨X, hX⟩ : ∃ X, entryK es x = X := ⟨_, rfl⟩
      have HIT := Lib.hid (show Calls Try.prog 70 #[.slice a nn cap, .int .i64 (x : Nat)] W.drew fun r w' => r = .returned (.agg #[.string X.id, .string X.title, .string X.link, .string X.author, .string X.content, .string X.date, .int .i8 X.kind]) ∧ Below W.drew.heap.size W.drew w' by rw [← hX]; exact hit)
      have d0 : W.drew.cell? ⟨w.heap.size, 0, none⟩ = some (.slice a nn cap) := J.bl.cell
      have d1 : W.drew.cell? ⟨w.heap.size + 1, 8, none⟩ = some (.slice y1 y2 y3) := hrow.blk.cell 8 rfl
      have RND := Lib.hid (fun (w8 : World) (hb8 : Below W.drew.heap.size W.drew w8) => fe_round J hrow hown (hbd.trans hb8) X (by rw [List.length_map]; exact hlen))
      have HX := Lib.hid hX
      have hBw := (FE.out w (Below.refl _ w)).hB
      clear hit hrow hown hX hxn hxe he hxl hsp hT J7
      gi_wp2_with fail
      gi_region_with (refine ⟨trivial, ?_⟩; gi_at_call 70; refine (CallsIn.inRound l (callsIn_wide.2 HIT.out)).mono ?_; rintro r w8 ⟨rfl, hb8⟩; obtain ⟨z1, z2, z3, w9, e0, e1, HR, e2, e3, J9, K9, T9, B9⟩ := RND.out w8 hb8; rw [app_veil] at HR)
      all_goals
        gi_wp2_with fail
        refine ⟨K9.from _, ⟨T9, B9.mono (show B ≤ w.heap.size from ?_)⟩, ?_⟩
        · exact hBw
        · show FeJ w _ ⟨3, H, (pre ++ [x]).map (entryK es)⟩ _
          rw [List.map_append, List.map_cons, List.map_nil, HX.out]
          exact J9
    case done =>
      rintro D ys W hD rfl J hK
      obtain ⟨v0, hrw, hown⟩ := J.rs
      obtain ⟨y1, y2, y3, rfl⟩ := hown.form
      simp only at hrw
      have k0 : W.cell? ⟨w.heap.size + 1, 0, none⟩ = some (.int .i8 3) := hrw.blk.cell 0 rfl
      have k1 : W.cell? ⟨w.heap.size + 1, 1, none⟩ = some (.string H.id) := hrw.blk.cell 1 rfl
      have k2 : W.cell? ⟨w.heap.size + 1, 2, none⟩ = some (.string H.title) := hrw.blk.cell 2 rfl
      have k3 : W.cell? ⟨w.heap.size + 1, 3, none⟩ = some (.string H.link) := hrw.blk.cell 3 rfl
      have k4 : W.cell? ⟨w.heap.size + 1, 4, none⟩ = some (.string H.author) := hrw.blk.cell 4 rfl
      have k5 : W.cell? ⟨w.heap.size + 1, 5, none⟩ = some (.string H.content) := hrw.blk.cell 5 rfl
      have k6 : W.cell? ⟨w.heap.size + 1, 6, none⟩ = some (.string H.date) := hrw.blk.cell 6 rfl
      have k7 : W.cell? ⟨w.heap.size + 1, 7, none⟩ = some (.int .i8 H.kind) := hrw.blk.cell 7 rfl
      have k8 : W.cell? ⟨w.heap.size + 1, 8, none⟩ = some (.slice y1 y2 y3) := hrw.blk.cell 8 rfl
      have kf0 := hrw.blk.free 0
      have kf1 := hrw.blk.free 1
      have kf2 := hrw.blk.free 2
      have kf3 := hrw.blk.free 3
      have kf4 := hrw.blk.free 4
      have kf5 := hrw.blk.free 5
      have kf6 := hrw.blk.free 6
      have kf7 := hrw.blk.free 7
      have kf8 := hrw.blk.free 8
      have HRS := Lib.hid (raw_set hrw (.int .i8 3) (.string H.id) (.string H.title) (.string H.link) (.string H.author) (.string H.content) (.string H.date) (.int .i8 H.kind) (.slice y1 y2 y3))
      have HOS := Lib.hid (raw_own hown (Nat.lt_succ_self _) (.int .i8 3) (.string H.id) (.string H.title) (.string H.link) (.string H.author) (.string H.content) (.string H.date) (.int .i8 H.kind) (.slice y1 y2 y3))
      have HBS := Lib.hid (raw_below J.be (Nat.le_succ _) (.int .i8 3) (.string H.id) (.string H.title) (.string H.link) (.string H.author) (.string H.content) (.string H.date) (.int .i8 H.kind) (.slice y1 y2 y3))
      have HKp := Lib.hid (raw_keeps W (w.heap.size + 1) D (by omega) hK (.int .i8 3) (.string H.id) (.string H.title) (.string H.link) (.string H.author) (.string H.content) (.string H.date) (.int .i8 H.kind) (.slice y1 y2 y3))
      gi_wp2_with fail
      have hK' := HKp.out
      refine ⟨by simp, .inl ⟨_, _, rfl, run_takeDeferred hK', ?_⟩⟩
      refine ⟨_, results_cell2 rfl _ _ _ _ _ rfl (HRS.out.putFar hK' rfl).blk Try.underlying50 rfl (by kernel_rfl), _, rfl, ?_, HBS.out.trans (belowK_b (w := w) (Nat.le_refl _) _ D _ _ (by omega) hK' rfl rfl)⟩
      rw [HF.out, HH.out]
      exact ⟨.slice y1 y2 y3, rfl, ownsRow_putObj HOS.out _ hK' rfl⟩
    case stop =>
      rintro D c pre W hD ht h
      exact h.elim
end Go.Proofs.Yteefopeclfojiaa
/- 
  Layer 24: the document's text, Date, head, entry, Is.
 -/
namespace Go.Proofs.Yteefopeclfojiaa
open Go.RowKit
theorem textP_len (es : List Evt) (i : Int) : (textP es i).length ≤ (txsL es).length := by
  unfold textP
  cases atP es i with
  | none => exact Nat.zero_le _
  | some g => exact segL_le es i.toNat (endN g i)
theorem txtOf_size (es : List Evt) (i : Int) (nm : ByteArray × ByteArray) : (txtOf es i nm).size ≤ (txsL es).length := by
  unfold txtOf
  cases fstP es i nm with
  | none => exact Nat.zero_le _
  | some k => simp only; rw [strOfNums_size]; exact textP_len es k
set_option maxRecDepth 100000 in
set_option maxHeartbeats 2000000 in
theorem ref24_text (B : Nat) (es : List Evt) (v : Value) (i : Int) (nm : ByteArray × ByteArray) (w : World) (hE : FEv B es v w) :
    Calls Try.prog 78 #[v, .int .i64 i, .agg #[.string nm.1, .string nm.2]] w fun r w' => r = .returned (.string (txtOf es i nm)) ∧ Below w.heap.size w w' := by
  have hb1 := (Below.refl w.heap.size w).alloc (Nat.le_refl _) (.cells #[.string nm.1, .string nm.2] 24)
  have hE1 := hE.below hb1
  have hF := ref16_First B es v i nm _ hE1.r hE1.hB (by have := hE.n; omega) hE.z2
  have FT := Lib.hid (fun (k : Nat) (u : World) (hu : Below w.heap.size w u) => ref16_Text B es v k u (hE.below hu).r (hE.below hu).hB (by have := hE.n; omega) hE.z2 hE.t)
  unfold txtOf
  obtain ⟨R, hR⟩ : ∃ R, fstP es i nm = R := ⟨_, rfl⟩
  rw [hR] at hF ⊢
  have HF := Lib.hid hF
  clear hF hR hE hE1
  cases R with
  | none =>
    go_enter Try.func78, Try.ntmps78
    go_wp2_with fail
    refine (HF.out).mono ?_
    rintro r w1 ⟨hb, rfl⟩
    go_wp2_with fail
    go_ret
    exact ⟨rfl, hb1.trans (hb.mono hb1.size)⟩
  | some k =>
    go_enter Try.func78, Try.ntmps78
    go_wp2_with fail
    refine (HF.out).mono ?_
    rintro r w1 ⟨hb, rfl⟩
    have hb2 := hb1.trans (hb.mono hb1.size)
    go_wp2_with fail
    refine (FT.out k _ hb2).mono ?_
    rintro r w2 ⟨rfl, hb3⟩
    go_wp2_with fail
    go_ret
    exact ⟨rfl, hb2.trans (hb3.mono hb2.size)⟩
set_option maxRecDepth 100000 in
set_option maxHeartbeats 4000000 in
theorem ref24_Date (B : Nat) (es : List Evt) (v : Value) (i : Int) (ns : List ByteArray) (nv : Value) (w : World) (hE : FEv B es v w) (hN : StrsAt w nv ns) (hns : ns.length ≤ 1000) :
    Calls Try.prog 41 #[v, .int .i64 i, nv] w fun r w' => r = .returned (.tuple #[.string (dateP es i ns).1, .int .i8 (dateP es i ns).2]) ∧ Below w.heap.size w w' := by
  obtain ⟨a, cap, rfl, hq⟩ := hN
  have FT := Lib.hid (fun (nm : ByteArray × ByteArray) (u : World) (hu : Below w.heap.size w u) => ref24_text B es v i nm u (hE.below hu))
  have HN := Lib.hid ref24_Name
  have HC := Lib.hid ref24_Core
  have HQ := Lib.hid hq
  have HEM := Lib.hid (fun (nm : ByteArray × ByteArray) (u : World) => ref22_Empty (txtOf es i nm) u (by have h1 := txtOf_size es i nm; have h2 := hE.t; omega))
  clear hE hq
  go_enter Try.func41, Try.ntmps41
  go_wp2
  go_loopw [8] (fun v w' => ∃ k : Nat, v = .int .i64 k ∧ k ≤ ns.length ∧ Below w.heap.size w w' ∧ dateP es i (ns.drop k) = dateP es i ns) (fun v _ => ns.length - (intOf v).toNat)
  case atStart => exact ⟨0, rfl, Nat.zero_le _, Below.refl _ _, rfl⟩
  case round =>
    obtain ⟨k, rfl, hk, hb, hd⟩ := hrel
    by_cases hlt : k < ns.length
    · have d0 : decide ((k : Int) < (ns.length : Int)) = true := decide_eq_true (by omega)
      obtain ⟨q, o, rfl, hq, hc⟩ := HQ.out k hlt
      have hst := dateP_at (es := es) (i := i) hlt
      rw [hd] at hst
      have hc1 : wr.cell? ⟨q, o + k, none⟩ = some (.string ns[k]) := by rw [hb.cell hq]; exact hc
      obtain ⟨n, hn⟩ : ∃ n, ns[k] = n := ⟨_, rfl⟩
      rw [hn] at hc hc1 hst
      have HX := Lib.hid hst
      clear hst hd hn hc
      cases he : emptyB (txtOf es i (spA, n)) with
      | true =>
        go_wp2_with (first
          | (go_at_call 32; refine (HN.out _ _).mono ?_; rintro e w2 ⟨rfl, hb2⟩; have hb3 := hb.trans (hb2.mono hb.size))
          | (go_at_call 78; refine (FT.out (spA, n) _ hb3).mono ?_; rintro e w3 ⟨rfl, hb4⟩; have hb5 := hb3.trans (hb4.mono hb3.size))
          | (go_at_call 38; refine (HEM.out (spA, n) _).mono ?_; rintro e w4 ⟨rfl, rfl⟩))
        go_roundw
        case rel => exact ⟨k + 1, by go_num, by omega, hb5, by rw [HX.out, if_pos he]⟩
        case measure => simp [intOf]; omega
      | false =>
        go_wp2_with (first
          | (go_at_call 32; refine (HN.out _ _).mono ?_; rintro e w2 ⟨rfl, hb2⟩; have hb3 := hb.trans (hb2.mono hb.size))
          | (go_at_call 78; refine (FT.out (spA, n) _ hb3).mono ?_; rintro e w3 ⟨rfl, hb4⟩; have hb5 := hb3.trans (hb4.mono hb3.size))
          | (go_at_call 38; refine (HEM.out (spA, n) _).mono ?_; rintro e w4 ⟨rfl, rfl⟩))
        go_ret2
        have hr : dateP es i ns = (txtOf es i (spA, n), 2) := by rw [HX.out, if_neg (by simp [he])]
        exact ⟨by rw [hr]; rfl, hb5⟩
    · have d0 : decide ((k : Int) < (ns.length : Int)) = false := decide_eq_false (by omega)
      have hst : dateP es i [] = dateP es i ns := by
        rw [← hd, List.drop_eq_nil_of_le (by omega)]
      have HX := Lib.hid hst
      clear hst hd
      cases he : emptyB (txtOf es i (spC, ⟨#[100, 97, 116, 101]⟩)) with
      | true =>
        go_wp2_with (first
          | (go_at_call 34; refine (HC.out _ _).mono ?_; rintro e w2 ⟨rfl, hb2⟩; have hb3 := hb.trans (hb2.mono hb.size))
          | (go_at_call 78; refine (FT.out (spC, _) _ hb3).mono ?_; rintro e w3 ⟨rfl, hb4⟩; have hb5 := hb3.trans (hb4.mono hb3.size))
          | (go_at_call 38; refine (HEM.out (spC, _) _).mono ?_; rintro e w4 ⟨rfl, rfl⟩))
        go_ret2
        have hr : dateP es i ns = (⟨#[]⟩, 0) := by rw [← HX.out]; exact if_pos he
        exact ⟨by rw [hr]; rfl, hb5⟩
      | false =>
        go_wp2_with (first
          | (go_at_call 34; refine (HC.out _ _).mono ?_; rintro e w2 ⟨rfl, hb2⟩; have hb3 := hb.trans (hb2.mono hb.size))
          | (go_at_call 78; refine (FT.out (spC, _) _ hb3).mono ?_; rintro e w3 ⟨rfl, hb4⟩; have hb5 := hb3.trans (hb4.mono hb3.size))
          | (go_at_call 38; refine (HEM.out (spC, _) _).mono ?_; rintro e w4 ⟨rfl, rfl⟩))
        go_ret2
        have hr : dateP es i ns = (txtOf es i (spC, ⟨#[100, 97, 116, 101]⟩), 3) := by rw [← HX.out]; exact if_neg (by simp [he])
        exact ⟨by rw [hr]; rfl, hb5⟩
end Go.Proofs.Yteefopeclfojiaa
