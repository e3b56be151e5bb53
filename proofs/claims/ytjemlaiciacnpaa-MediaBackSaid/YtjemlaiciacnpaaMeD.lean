/-
  The walks of media's scanner: run, token, blanks, is.
-/
import Derived.Test.YtjemlaiciacnpaaMeC
import Derived.Laws.Rows
namespace Go.Proofs.Ytjemlaiciacnpaa
open Go.RowKit
/-- a scanner of the text s lies in block p, and has read k bytes. -/
def ScanAt (w : World) (p : Nat) (s : ByteArray) (k : Nat) : Prop := ∃ T, w.heap[p]? = some (.cells #[.string s, .int .i64 k] T (0, 0))
theorem ScanAt.text {w : World} {p : Nat} {s : ByteArray} {k : Nat} (h : ScanAt w p s k) : w.cell? ⟨p, 0, none⟩ = some (.string s) := by
  obtain ⟨T, h⟩ := h
  simp [World.cell?, h]
theorem ScanAt.place {w : World} {p : Nat} {s : ByteArray} {k : Nat} (h : ScanAt w p s k) : w.cell? ⟨p, 1, none⟩ = some (.int .i64 k) := by
  obtain ⟨T, h⟩ := h
  simp [World.cell?, h]
theorem ScanAt.free {w : World} {p : Nat} {s : ByteArray} {k : Nat} (h : ScanAt w p s k) : w.frozen? ⟨p, 1, none⟩ = false := by
  obtain ⟨T, h⟩ := h
  simp [World.frozen?, h]
theorem ScanAt.step {w : World} {p : Nat} {s : ByteArray} {k : Nat} (h : ScanAt w p s k) (j : Nat) : ScanAt (w.setCell ⟨p, 1, none⟩ (.int .i64 j)) p s j := by
  obtain ⟨T, h⟩ := h
  exact ⟨T, by rw [heap_setCell_same w p 1 _ T _ h]; rfl⟩
theorem ScanAt.drewN {w : World} {p : Nat} {s : ByteArray} {k : Nat} (h : ScanAt w p s k) (n : Nat) : ScanAt (w.drewN n) p s k := h
theorem ScanAt.below {w w' : World} {p : Nat} {s : ByteArray} {k : Nat} (h : ScanAt w p s k) {B : Nat} (hb : Below B w w') (hp : p < B) : ScanAt w' p s k := by
  obtain ⟨T, h⟩ := h
  exact ⟨T, (hb.block p hp).trans h⟩
theorem ScanAt.lt {w : World} {p : Nat} {s : ByteArray} {k : Nat} (h : ScanAt w p s k) : p < w.heap.size := by
  obtain ⟨T, h⟩ := h
  exact (Array.getElem?_eq_some_iff.1 h).1
/-- nothing but the scanner's block is changed; nothing is dropped. -/
theorem gr_refl (w : World) (row : Option Nat) : w.grownBy w row := ⟨rfl, rfl, rfl, Nat.le_refl _, fun _ _ _ => rfl⟩
theorem gr_trans {a w w' : World} {row : Option Nat} (h : a.grownBy w row) (k : w.grownBy w' row) : a.grownBy w' row :=
  ⟨k.os.trans h.os, k.tape.trans h.tape, k.output.trans h.output, Nat.le_trans h.size k.size, fun b hb hne => (k.block b (Nat.lt_of_lt_of_le hb h.size) hne).trans (h.block b hb hne)⟩
theorem gr_dn {a w : World} {row : Option Nat} (h : a.grownBy w row) (n : Nat) : a.grownBy (w.drewN n) row := ⟨h.os, h.tape, h.output, h.size, h.block⟩
theorem gr_set {a w : World} {p : Nat} (h : a.grownBy w (some p)) (i : Nat) (v : Value) : a.grownBy (w.setCell ⟨p, i, none⟩ v) (some p) :=
  gr_trans h ⟨rfl, rfl, rfl, by simp [World.setCell], fun b _ hne => Below.heap_setCell w ⟨p, i, none⟩ v b (fun e => hne (by rw [e]))⟩
theorem gr_below {a w w' : World} {row : Option Nat} (h : a.grownBy w row) (hb : Below w.heap.size w w') : a.grownBy w' row :=
  gr_trans h ⟨hb.os, hb.tape, hb.output, hb.size, fun b hb' _ => hb.block b hb'⟩
theorem gr_of_below {w w' : World} (row : Option Nat) (hb : Below w.heap.size w w') : w.grownBy w' row := gr_below (gr_refl w row) hb
theorem kinds_all : ((List.range 256).all fun c => ((bits .and .i64 (kindsN (c : Nat)) 1 != 0) == isTok (c : Nat)) && ((bits .and .i64 (kindsN (c : Nat)) 2 != 0) == isBl (c : Nat)) && ((bits .and .i64 (kindsN (c : Nat)) 4 != 0) == isQt (c : Nat)) && ((bits .and .i64 (kindsN (c : Nat)) 8 != 0) == isEsc (c : Nat))) = true := by decide +kernel
theorem kinds_and (c : Nat) (h : c < 256) : (bits .and .i64 (kindsN (c : Nat)) 1 != 0) = isTok (c : Nat) ∧ (bits .and .i64 (kindsN (c : Nat)) 2 != 0) = isBl (c : Nat) ∧ (bits .and .i64 (kindsN (c : Nat)) 4 != 0) = isQt (c : Nat) ∧ (bits .and .i64 (kindsN (c : Nat)) 8 != 0) = isEsc (c : Nat) := by
  have := List.all_eq_true.1 kinds_all c (List.mem_range.2 h)
  simpa [Bool.and_eq_true, beq_iff_eq, and_assoc] using this
theorem kinds_quiet (c : Nat) (h : c < 256) (n : Int) (hn : kindsN c = n) (w : World) :
    Calls Try.prog 40 #[.int .u8 c] w fun e w' => e = .returned (.int .i64 n) ∧ w' = w :=
  (media_kinds c w (by omega) (by omega)).mono fun _ _ ⟨a, b⟩ => ⟨by rw [a, hn], b.symm⟩
def placeOf (w : World) (p : Nat) : Nat := match w.cell? ⟨p, 1, none⟩ with | some (.int _ k) => k.toNat | _ => 0
theorem placeOf_at {w : World} {p : Nat} {s : ByteArray} {k : Nat} (h : ScanAt w p s k) : placeOf w p = k := by unfold placeOf; rw [h.place]; rfl
set_option maxRecDepth 100000 in
set_option maxHeartbeats 4000000 in
theorem scan_run (kd : Int) (P : Int → Bool) (hP : ∀ c : Nat, c < 256 → (bits .and .i64 (kindsN (c : Nat)) kd != 0) = P c) (p : Nat) (s : ByteArray) (k : Nat) (w : World) (hsc : ScanAt w p s k) (hk0 : k ≤ s.size) (hs : s.size ≤ 1099511627776) :
    Calls Try.prog 34 #[.pointer (some ⟨p, 0, none⟩), .int .i64 kd] w fun e w' => e = .returned (.string (strOfNums (((nums s).drop k).takeWhile P))) ∧ ScanAt w' p s (k + spanN P s k) ∧ w.grownBy w' (some p) := by
  rw [← extract_span]
  have hE0 : k + spanN P s k ≤ s.size := spanN_le P s k hk0
  have hE1 : k ≤ k + spanN P s k := Nat.le_add_right _ _
  obtain ⟨E, hE⟩ : ∃ E, k + spanN P s k = E := ⟨_, rfl⟩
  rw [hE] at hE0 hE1 ⊢
  have HE := Lib.hid hE
  clear hE
  have hc1 := hsc.place
  go_enter Try.func34, Try.ntmps34
  go_wp2
  go_loopw [] (fun wr => ∃ j : Nat, j ≤ s.size ∧ j + spanN P s j = E ∧ ScanAt wr p s j ∧ w.grownBy wr (some p)) (fun wr => s.size - placeOf wr p)
  case atStart => exact ⟨k, hk0, HE.out, hsc, gr_refl _ _⟩
  case round =>
    obtain ⟨j, hj, hsp, hscj, hgr⟩ := hrel
    have ht := hscj.text
    have hp := hscj.place
    have hf := hscj.free
    by_cases hlt : j < s.size
    · have hd : decide ((j : Int) < (s.size : Int)) = true := decide_eq_true (by omega)
      obtain ⟨c, hc⟩ : ∃ c, s[j].toNat = c := ⟨_, rfl⟩
      have hidx := index_str s j hlt (c : Int) j (by rw [hc]) rfl
      have hc256 : c < 256 := by rw [← hc]; exact s[j].toBitVec.isLt
      obtain ⟨n, hn⟩ : ∃ n, kindsN (c : Int) = n := ⟨_, rfl⟩
      obtain ⟨m, hm⟩ : ∃ m, bits .and .i64 n kd = m := ⟨_, rfl⟩
      have hmz := hP c hc256
      rw [hn, hm] at hmz
      have HN := Lib.hid hn
      cases hb : P (c : Int) with
      | false =>
        rw [hb] at hmz
        rw [spanN_no hlt (by rw [hc]; exact hb)] at hsp
        obtain rfl : j = E := by omega
        clear hb hc hn hd
        go_wp2_with fail
        go_quiet ((go_at_call 40; exact Calls.quiet_of_same (kinds_quiet c hc256 n HN.out _)))
        clear hmz hm
        go_wp2_with fail
        go_quiet (fail)
        go_wp2
        go_ret
        exact ⟨rfl, hscj, gr_dn (gr_dn hgr _) _⟩
      | true =>
        rw [hb] at hmz
        rw [spanN_yes hlt (by rw [hc]; exact hb)] at hsp
        clear hb hc hn hd
        go_wp2_with fail
        go_quiet ((go_at_call 40; exact Calls.quiet_of_same (kinds_quiet c hc256 n HN.out _)))
        clear hmz hm
        have hst := (hscj.drewN nq).step (j + 1)
        have hpl := placeOf_at hscj
        have hpl' := placeOf_at hst
        go_wp2
        rw [show ((j : Int) + 1) = ((j + 1 : Nat) : Int) by omega]
        exact ⟨⟨j + 1, by omega, by omega, hst, gr_set (gr_dn hgr _) 1 _⟩, by rw [hpl, hpl']; omega⟩
    · rw [spanN_end (by omega)] at hsp
      obtain rfl : j = E := by omega
      have hd : decide ((j : Int) < (s.size : Int)) = false := decide_eq_false (by omega)
      go_wp2_with fail
      go_quiet (fail)
      go_wp2_with fail
      go_quiet (fail)
      go_wp2
      go_ret
      exact ⟨rfl, hscj, gr_dn (gr_dn hgr _) _⟩
theorem scan_token (p : Nat) (s : ByteArray) (k : Nat) (w : World) (hsc : ScanAt w p s k) (hk0 : k ≤ s.size) (hs : s.size ≤ 1099511627776) :
    Calls Try.prog 21 #[.pointer (some ⟨p, 0, none⟩)] w fun e w' => e = .returned (.string (strOfNums (((nums s).drop k).takeWhile isTok))) ∧ ScanAt w' p s (k + spanN isTok s k) ∧ w.grownBy w' (some p) := by
  go_enter Try.func21, Try.ntmps21
  go_wp2_with fail
  refine (scan_run 1 isTok (fun c h => (kinds_and c h).1) _ _ _ _ hsc hk0 hs).mono ?_
  rintro e w' ⟨rfl, h1, h2⟩
  go_wp2
  go_ret
  exact ⟨rfl, h1, h2⟩
theorem scan_blanks (p : Nat) (s : ByteArray) (k : Nat) (w : World) (hsc : ScanAt w p s k) (hk0 : k ≤ s.size) (hs : s.size ≤ 1099511627776) :
    Calls Try.prog 22 #[.pointer (some ⟨p, 0, none⟩)] w fun e w' => e = .returned (.string (strOfNums (((nums s).drop k).takeWhile isBl))) ∧ ScanAt w' p s (k + spanN isBl s k) ∧ w.grownBy w' (some p) := by
  go_enter Try.func22, Try.ntmps22
  go_wp2_with fail
  refine (scan_run 2 isBl (fun c h => (kinds_and c h).2.1) _ _ _ _ hsc hk0 hs).mono ?_
  rintro e w' ⟨rfl, h1, h2⟩
  go_wp2
  go_ret
  exact ⟨rfl, h1, h2⟩
/-- does the byte at k stand there? -/
def atB (s : ByteArray) (k : Nat) (c : Int) : Bool := ((nums s).drop k).head? == some c
theorem atB_lt {s : ByteArray} {k : Nat} (h : k < s.size) (c : Int) : atB s k c = ((s[k].toNat : Int) == c) := by
  unfold atB
  rw [nums_drop s k h, List.head?_cons]
  by_cases e : (s[k].toNat : Int) = c <;> simp [e]
theorem atB_end {s : ByteArray} {k : Nat} (h : s.size ≤ k) (c : Int) : atB s k c = false := by
  unfold atB
  rw [nums_drop_end s k h]
  rfl
set_option maxRecDepth 100000 in
set_option maxHeartbeats 4000000 in
theorem scan_is (d : Int) (p : Nat) (s : ByteArray) (k : Nat) (w : World) (hsc : ScanAt w p s k) (hk0 : k ≤ s.size) (hs : s.size ≤ 1099511627776) :
    Calls Try.prog 23 #[.pointer (some ⟨p, 0, none⟩), .int .u8 d] w fun e w' => e = .returned (.bool (atB s k d)) ∧ ScanAt w' p s (if atB s k d then k + 1 else k) ∧ w.grownBy w' (some p) := by
  have ht := hsc.text
  have hp := hsc.place
  have hf := hsc.free
  by_cases hlt : k < s.size
  · obtain ⟨c, hc⟩ : ∃ c, s[k].toNat = c := ⟨_, rfl⟩
    have hidx := index_str s k hlt (c : Int) k (by rw [hc]) rfl
    have ha := atB_lt hlt d
    rw [hc] at ha
    cases hb : atB s k d with
    | false =>
      rw [hb] at ha
      have hq : ((c : Int) == d) = false := ha.symm
      clear ha hc hb
      go_enter Try.func23, Try.ntmps23
      go_wp2_with fail
      go_quiet (fail)
      go_wp2
      go_ret
      exact ⟨rfl, hsc, gr_dn (gr_refl _ _) _⟩
    | true =>
      rw [hb] at ha
      have hq : ((c : Int) == d) = true := ha.symm
      have hst := fun n => (hsc.drewN n).step (k + 1)
      clear ha hc hb
      go_enter Try.func23, Try.ntmps23
      go_wp2_with fail
      go_quiet (fail)
      go_wp2
      go_ret
      exact ⟨rfl, hst _, gr_set (gr_dn (gr_refl _ _) _) 1 _⟩
  · rw [atB_end (by omega)]
    have hd : decide ((k : Int) < (s.size : Int)) = false := decide_eq_false (by omega)
    go_enter Try.func23, Try.ntmps23
    go_wp2_with fail
    go_quiet (fail)
    go_wp2
    go_ret
    exact ⟨rfl, hsc, gr_dn (gr_refl _ _) _⟩
end Go.Proofs.Ytjemlaiciacnpaa
