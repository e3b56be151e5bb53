/-
  Layer 7: the walks of at, Mark, Cut, Shape.
-/
import Derived.Test.YtaheooedcjjckaaDeQ
import Derived.Test.YtaheooedcjjckaaDeC
import Derived.Test.YtaheooedcjjckaaMeV
import Derived.Test.YtaheooedcjjckaaLib
namespace Go.Proofs.Ytaheooedcjjckaa
open Go.RowKit
def preB (b p : ByteArray) : Bool := Lib.hasPrefix b.data.toList p.data.toList
theorem preB_nums (b p : ByteArray) : preB b p = (nums p).isPrefixOf (nums b) := by
  unfold preB Lib.hasPrefix
  rw [pre_nums, numsL_of, numsL_of]
theorem cell_lt7 {w : World} {b i : Nat} {v : Value} (h : w.cell? ⟨b, i, none⟩ = some v) : b < w.heap.size := by
  simp only [World.cell?] at h
  by_cases hlt : b < w.heap.size
  · exact hlt
  · rw [Array.getElem?_eq_none (by omega)] at h; simp at h
/-- where the first sign that stands at the front stands in the row. -/
def idxS (b : ByteArray) : List (ByteArray × Int) → Option Nat
  | [] => none
  | s :: r => if preB b s.1 then some 0 else (idxS b r).map (· + 1)
theorem idxS_lt (b : ByteArray) : ∀ (S : List (ByteArray × Int)) (i : Nat), idxS b S = some i → i < S.length
  | [], i, h => by cases h
  | s :: r, i, h => by
    rw [idxS] at h
    split at h
    · cases h; simp
    · cases e : idxS b r with
      | none => rw [e] at h; cases h
      | some m =>
        rw [e] at h
        cases h
        have := idxS_lt b r m e
        simp only [List.length_cons]; omega
theorem declare_at1 (b p : ByteArray) (e : Int) (B : Nat) (w : World) (hc : w.cell? ⟨B, 0, none⟩ = some (.string b)) :
    Calls Try.prog 26 #[.agg #[.string p, .int .i8 e], .pointer (some ⟨B, 0, none⟩)] w fun e w' => e = .returned (.bool (preB b p)) ∧ Below w.heap.size w w' := by
  have hlt := cell_lt7 hc
  have hba := (Below.refl w.heap.size w).alloc (Nat.le_refl _) (.cells #[.string p, .int .i8 e] 41)
  have hc2 := (hba.cell (p := ⟨B, 0, none⟩) hlt).trans hc
  go_enter Try.func26, Try.ntmps26
  go_wp2_with fail
  refine (Try.strings_HasPrefix b p _).mono ?_
  rintro e w' ⟨rfl, rfl⟩
  go_wp2
  go_ret
  exact ⟨rfl, hba⟩
theorem declare_IndexFunc (b : ByteArray) (S : List (ByteArray × Int)) (g cap B : Nat) (w : World) (hc : w.cell? ⟨B, 0, none⟩ = some (.string b)) (hg : g < w.heap.size)
    (hS : ∀ k (h : k < S.length), w.cell? ⟨g, 0 + k * 2, none⟩ = some (.string S[k].1) ∧ w.cell? ⟨g, 0 + k * 2 + 1, none⟩ = some (.int .i8 S[k].2)) (hn : S.length ≤ 1000) :
    Calls Try.prog 25 #[.slice (some ⟨g, 0, none⟩) S.length cap, .func (.func 26) #[] #[.pointer (some ⟨B, 0, none⟩)]] w fun e w' => e = .returned (.int .i64 (posI (idxS b S))) ∧ Below w.heap.size w w' := by
  have hlt := cell_lt7 hc
  have hB := Below.refl w.heap.size w
  have HS := Lib.hid hS
  clear hS
  go_enter Try.func25, Try.ntmps25
  go_wp2_with fail
  go_loopw [8] (fun i wr => ∃ k : Nat, i = .int .i64 k ∧ k ≤ S.length ∧ Hid (idxS b S = (idxS b (S.drop k)).map (· + k)) ∧ Below w.heap.size w wr) (fun i _ => S.length - (intOf i).toNat)
  case atStart => exact ⟨0, rfl, by omega, Lib.hid (by rw [List.drop_zero]; simp), hB⟩
  case round =>
    obtain ⟨k, rfl, hk, HQ, hbw⟩ := hrel
    by_cases hlk : k < S.length
    · obtain ⟨s0, s1⟩ := HS.out k hlk
      obtain ⟨x, hx⟩ : ∃ x, S[k] = x := ⟨_, rfl⟩
      obtain ⟨p, e⟩ := x
      have hdr : S.drop k = (p, e) :: S.drop (k + 1) := by rw [← hx, List.drop_eq_getElem_cons hlk]
      rw [hx] at s0 s1
      have c0 := (hbw.cell (p := ⟨g, 0 + k * 2, none⟩) hg).trans s0
      have c1 := (hbw.cell (p := ⟨g, 0 + k * 2 + 1, none⟩) hg).trans s1
      have hcw := (hbw.cell (p := ⟨B, 0, none⟩) hlt).trans hc
      have H1 := Lib.hid (declare_at1 b p e B wr hcw)
      rw [Nat.zero_add] at c0 c1
      cases hp : preB b p with
      | true =>
        rw [hp] at H1
        have HR := Lib.hid (show posI (idxS b S) = (k : Int) by rw [HQ.out, hdr, idxS, if_pos hp]; simp [posI])
        clear hdr hx s0 s1 hp
        go_wp2_with fail
        refine H1.out.mono ?_
        rintro e w' ⟨rfl, hb1⟩
        go_wp2
        go_ret
        exact ⟨ret_int HR.out.symm, hbw.trans (hb1.mono hbw.size)⟩
      | false =>
        rw [hp] at H1
        have HR := Lib.hid (show idxS b S = (idxS b (S.drop (k + 1))).map (· + (k + 1)) by
          rw [HQ.out, hdr, idxS, hp, if_neg (by decide), Option.map_map]
          congr 1
          funext i
          simp only [Function.comp]
          omega)
        clear hdr hx s0 s1 hp
        go_wp2_with fail
        refine H1.out.mono ?_
        rintro e w' ⟨rfl, hb1⟩
        go_wp2
        exact ⟨⟨k + 1, by go_num, by omega, HR, hbw.trans (hb1.mono hbw.size)⟩, by simp [intOf]; omega⟩
    · have HR := Lib.hid (show posI (idxS b S) = -1 by rw [HQ.out, List.drop_eq_nil_of_le (by omega)]; rfl)
      go_wp2
      go_ret
      exact ⟨ret_int HR.out.symm, hbw⟩
/-- the sign that stands at the front. -/
def atS (b : ByteArray) : List (ByteArray × Int) → (ByteArray × Int) × Bool
  | [] => ((⟨#[]⟩, 0), false)
  | s :: r => if preB b s.1 then (s, true) else atS b r
theorem atS_none (b : ByteArray) : ∀ S, idxS b S = none → atS b S = ((⟨#[]⟩, 0), false)
  | [], _ => rfl
  | s :: r, h => by
    rw [idxS] at h
    split at h
    · cases h
    · rename_i hp
      rw [atS, if_neg hp]
      exact atS_none b r (by cases e : idxS b r with | none => rfl | some m => rw [e] at h; cases h)
theorem atS_some (b : ByteArray) : ∀ S i (h : idxS b S = some i), atS b S = (S[i]'(idxS_lt b S i h), true)
  | [], i, h => by cases h
  | s :: r, i, h => by
    have h0 := h
    rw [idxS] at h
    split at h
    · rename_i hp
      cases h
      rw [atS, if_pos hp]; rfl
    · rename_i hp
      cases e : idxS b r with
      | none => rw [e] at h; cases h
      | some m =>
        rw [e] at h
        cases h
        rw [atS, if_neg hp, atS_some b r m e]; rfl
set_option maxHeartbeats 1000000 in
theorem declare_at (b : ByteArray) (S : List (ByteArray × Int)) (g cap : Nat) (w : World) (hg : g < w.heap.size)
    (hS : ∀ k (h : k < S.length), w.cell? ⟨g, 0 + k * 2, none⟩ = some (.string S[k].1) ∧ w.cell? ⟨g, 0 + k * 2 + 1, none⟩ = some (.int .i8 S[k].2)) (hn : S.length ≤ 1000) :
    Calls Try.prog 19 #[.string b, .slice (some ⟨g, 0, none⟩) S.length cap] w fun e w' => e = .returned (.tuple #[.agg #[.string (atS b S).1.1, .int .i8 (atS b S).1.2], .bool (atS b S).2]) ∧ Below w.heap.size w w' := by
  have HS := Lib.hid hS
  have hb1 := (Below.refl w.heap.size w).alloc (Nat.le_refl _) (.cells #[.string b] 9)
  obtain ⟨w1, hw1⟩ : ∃ x, w.alloc (.cells #[.string b] 9) = x := ⟨_, rfl⟩
  have s1 : w1.heap.size = w.heap.size + 1 := by rw [← hw1, World.size_alloc]
  have k1 := BlkAt.new w #[.string b] 9
  rw [hw1] at hb1 k1
  have hb2 := hb1.alloc (by omega) (.cells #[.string ⟨#[]⟩, .int .i8 0] 41)
  have k2 := BlkAt.new w1 #[.string ⟨#[]⟩, .int .i8 0] 41
  have k1 := k1.alloc (.cells #[.string ⟨#[]⟩, .int .i8 0] 41)
  obtain ⟨w2, hw2⟩ : ∃ x, w1.alloc (.cells #[.string ⟨#[]⟩, .int .i8 0] 41) = x := ⟨_, rfl⟩
  have s2 : w2.heap.size = w.heap.size + 2 := by rw [← hw2, World.size_alloc, s1]
  rw [hw2] at hb2 k2 k1
  rw [s1] at k2
  have HI := Lib.hid (declare_IndexFunc b S g cap w.heap.size w2 (k1.cell 0 rfl) (by omega) (fun k h => ⟨(hb2.cell (p := ⟨g, 0 + k * 2, none⟩) hg).trans (hS k h).1, (hb2.cell (p := ⟨g, 0 + k * 2 + 1, none⟩) hg).trans (hS k h).2⟩) hn)
  clear hS
  go_enter Try.func19, Try.ntmps19
  go_wp2_with fail
  refine HI.out.mono ?_
  rintro e w3 ⟨rfl, hb3⟩
  have k3 := k2.below hb3 k2.lt
  have c0 := k3.cell 0 rfl
  have c1 := k3.cell 1 rfl
  have f0 := k3.free 0
  have f1 := k3.free 1
  have hb3 := hb2.trans (hb3.mono (by omega))
  cases hx : idxS b S with
  | none =>
    have HA := Lib.hid (atS_none b S hx)
    clear hx
    go_wp2_with fail
    refine bodyPost_ret (results_cell2 rfl _ _ _ _ _ rfl ((k3.set 0 _).set 1 _) Try.underlying41 rfl (by kernel_rfl)) rfl ?_
    exact ⟨by rw [HA.out]; rfl, (hb3.setCell (p := ⟨w.heap.size + 1, 0, none⟩) (by simp) _).setCell (p := ⟨w.heap.size + 1, 1, none⟩) (by simp) _⟩
  | some i =>
    have hil := idxS_lt b S i hx
    obtain ⟨q0, q1⟩ := HS.out i hil
    obtain ⟨p, hpp⟩ : ∃ p, S[i] = p := ⟨_, rfl⟩
    have HA := Lib.hid (show atS b S = (p, true) by rw [atS_some b S i hx, hpp])
    rw [hpp] at q0 q1
    obtain ⟨p, e⟩ := p
    have q0 := (hb3.cell (p := ⟨g, 0 + i * 2, none⟩) hg).trans q0
    have q1 := (hb3.cell (p := ⟨g, 0 + i * 2 + 1, none⟩) hg).trans q1
    rw [Nat.zero_add] at q0 q1
    clear hx hpp
    rw [show posI (some i) = (i : Int) from rfl]
    go_wp2_with fail
    refine bodyPost_ret (results_cell2 rfl _ _ _ _ _ rfl ((k3.set 0 _).set 1 _) Try.underlying41 rfl (by kernel_rfl)) rfl ?_
    exact ⟨by rw [HA.out]; rfl, (hb3.setCell (p := ⟨w.heap.size + 1, 0, none⟩) (by simp) _).setCell (p := ⟨w.heap.size + 1, 1, none⟩) (by simp) _⟩
def mkL : List (ByteArray × Int) := [(⟨#[239, 187, 191]⟩, 0), (⟨#[255, 254]⟩, 1), (⟨#[254, 255]⟩, 2)]
def shL : List (ByteArray × Int) := [(⟨#[60, 0, 63, 0]⟩, 1), (⟨#[0, 60, 0, 63]⟩, 2)]
/-- the mark, as it is told. -/
def mrkV (l : List Int) : Int × Nat × Bool := match markD l with
  | some p => (p.1, p.2, true)
  | none => (0, 0, false)
def shpV (l : List Int) : Int × Bool := match shapeD l with
  | some p => (p, true)
  | none => (0, false)
theorem atS_mark (b : ByteArray) : ((atS b mkL).1.2, (atS b mkL).1.1.size, (atS b mkL).2) = mrkV (nums b) := by
  have h1 : preB b ⟨#[239, 187, 191]⟩ = [239, 187, 191].isPrefixOf (nums b) := preB_nums b _
  have h2 : preB b ⟨#[255, 254]⟩ = [255, 254].isPrefixOf (nums b) := preB_nums b _
  have h3 : preB b ⟨#[254, 255]⟩ = [254, 255].isPrefixOf (nums b) := preB_nums b _
  unfold mkL mrkV markD
  rw [atS, atS, atS, atS]
  dsimp only
  rw [h1, h2, h3]
  cases [239, 187, 191].isPrefixOf (nums b) with
  | true => rfl
  | false =>
    cases [255, 254].isPrefixOf (nums b) with
    | true => rfl
    | false => cases [254, 255].isPrefixOf (nums b) <;> rfl
theorem atS_shape (b : ByteArray) : ((atS b shL).1.2, (atS b shL).2) = shpV (nums b) := by
  have h1 : preB b ⟨#[60, 0, 63, 0]⟩ = [60, 0, 63, 0].isPrefixOf (nums b) := preB_nums b _
  have h2 : preB b ⟨#[0, 60, 0, 63]⟩ = [0, 60, 0, 63].isPrefixOf (nums b) := preB_nums b _
  unfold shL shpV shapeD
  rw [atS, atS, atS]
  dsimp only
  rw [h1, h2]
  cases [60, 0, 63, 0].isPrefixOf (nums b) with
  | true => rfl
  | false => cases [0, 60, 0, 63].isPrefixOf (nums b) <;> rfl
set_option maxHeartbeats 1000000 in
theorem declare_Mark (b : ByteArray) (w : World) : Calls Try.prog 8 #[.string b] w fun e w' => e = .returned (.tuple #[.int .i8 (mrkV (nums b)).1, .int .i64 ((mrkV (nums b)).2.1 : Nat), .bool (mrkV (nums b)).2.2]) ∧ Below w.heap.size w w' := by
  have hm := atS_mark b
  have hb1 := (Below.refl w.heap.size w).alloc (Nat.le_refl _) (.cells #[.string ⟨#[239, 187, 191]⟩, .int .i8 0, .string ⟨#[255, 254]⟩, .int .i8 1, .string ⟨#[254, 255]⟩, .int .i8 2] 41)
  have k1 := BlkAt.new w #[.string ⟨#[239, 187, 191]⟩, .int .i8 0, .string ⟨#[255, 254]⟩, .int .i8 1, .string ⟨#[254, 255]⟩, .int .i8 2] 41
  obtain ⟨w1, hw1⟩ : ∃ x, w.alloc (.cells #[.string ⟨#[239, 187, 191]⟩, .int .i8 0, .string ⟨#[255, 254]⟩, .int .i8 1, .string ⟨#[254, 255]⟩, .int .i8 2] 41) = x := ⟨_, rfl⟩
  have s1 : w1.heap.size = w.heap.size + 1 := by rw [← hw1, World.size_alloc]
  rw [hw1] at hb1 k1
  obtain ⟨⟨⟨p, en⟩, ok⟩, hA⟩ : ∃ x, atS b mkL = x := ⟨_, rfl⟩
  have HI := Lib.hid (fun cap => by
    have h := declare_at b mkL w.heap.size cap w1 (by omega) (fun k h => by
      match k, h with
      | 0, _ => exact ⟨k1.cell 0 rfl, k1.cell 1 rfl⟩
      | 1, _ => exact ⟨k1.cell 2 rfl, k1.cell 3 rfl⟩
      | 2, _ => exact ⟨k1.cell 4 rfl, k1.cell 5 rfl⟩) (by decide)
    rw [hA, show mkL.length = 3 from rfl] at h
    exact h)
  rw [hA] at hm
  have HM := Lib.hid hm.symm
  clear hm hA k1
  go_enter Try.func8, Try.ntmps8
  go_wp2_with fail
  refine (HI.out _).mono ?_
  rintro e w3 ⟨rfl, hb3⟩
  have hb3 := hb1.trans (hb3.mono (by omega))
  go_wp2_with fail
  go_quiet (fail)
  go_wp2
  go_ret3
  exact ⟨by rw [HM.out]; rfl, below_dn (hb3.alloc hb3.size _) _⟩
set_option maxHeartbeats 1000000 in
theorem declare_Shape (b : ByteArray) (w : World) : Calls Try.prog 12 #[.string b] w fun e w' => e = .returned (.tuple #[.int .i8 (shpV (nums b)).1, .bool (shpV (nums b)).2]) ∧ Below w.heap.size w w' := by
  have hm := atS_shape b
  have hb1 := (Below.refl w.heap.size w).alloc (Nat.le_refl _) (.cells #[.string ⟨#[60, 0, 63, 0]⟩, .int .i8 1, .string ⟨#[0, 60, 0, 63]⟩, .int .i8 2] 41)
  have k1 := BlkAt.new w #[.string ⟨#[60, 0, 63, 0]⟩, .int .i8 1, .string ⟨#[0, 60, 0, 63]⟩, .int .i8 2] 41
  obtain ⟨w1, hw1⟩ : ∃ x, w.alloc (.cells #[.string ⟨#[60, 0, 63, 0]⟩, .int .i8 1, .string ⟨#[0, 60, 0, 63]⟩, .int .i8 2] 41) = x := ⟨_, rfl⟩
  have s1 : w1.heap.size = w.heap.size + 1 := by rw [← hw1, World.size_alloc]
  rw [hw1] at hb1 k1
  obtain ⟨⟨⟨p, en⟩, ok⟩, hA⟩ : ∃ x, atS b shL = x := ⟨_, rfl⟩
  have HI := Lib.hid (fun cap => by
    have h := declare_at b shL w.heap.size cap w1 (by omega) (fun k h => by
      match k, h with
      | 0, _ => exact ⟨k1.cell 0 rfl, k1.cell 1 rfl⟩
      | 1, _ => exact ⟨k1.cell 2 rfl, k1.cell 3 rfl⟩) (by decide)
    rw [hA, show shL.length = 2 from rfl] at h
    exact h)
  rw [hA] at hm
  have HM := Lib.hid hm.symm
  clear hm hA k1
  go_enter Try.func12, Try.ntmps12
  go_wp2_with fail
  refine (HI.out _).mono ?_
  rintro e w3 ⟨rfl, hb3⟩
  have hb3 := hb1.trans (hb3.mono (by omega))
  go_wp2_with fail
  go_ret2
  exact ⟨by rw [HM.out]; rfl, hb3.alloc hb3.size _⟩
theorem mrkV_le (b : ByteArray) : (mrkV (nums b)).2.1 ≤ b.size := by
  unfold mrkV
  cases e : markD (nums b) with
  | none => exact Nat.zero_le _
  | some p => have := (markD_len e).2; rw [nums_length] at this; exact this
/-- what is behind the mark. -/
def cutS (b : ByteArray) : ByteArray := b.extract (mrkV (nums b)).2.1 b.size
theorem declare_Cut (b : ByteArray) (w : World) : Calls Try.prog 10 #[.string b] w fun e w' => e = .returned (.string (cutS b)) ∧ Below w.heap.size w w' := by
  have hle := mrkV_le b
  obtain ⟨en, n, ok, hm⟩ : ∃ x y z, mrkV (nums b) = (x, y, z) := ⟨_, _, _, rfl⟩
  have HM := Lib.hid (declare_Mark b w)
  rw [hm] at hle HM
  dsimp only at hle HM
  have HC := Lib.hid (show b.extract n b.size = cutS b by unfold cutS; rw [hm])
  have hle' : (n : Int) ≤ (b.size : Int) := by omega
  clear hm
  go_enter Try.func10, Try.ntmps10
  go_wp2_with fail
  refine HM.out.mono ?_
  rintro e w3 ⟨rfl, hb3⟩
  go_wp2
  go_ret
  exact ⟨ret_str HC.out, hb3⟩
end Go.Proofs.Ytaheooedcjjckaa
