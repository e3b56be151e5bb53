/-
  Parts AtV AtW of this seat's texts, in one file: contracts of functions that the law reaches, and the plain laws behind them. No condition.
-/
import Derived.Test.YteefopeclfojiaaG13
import Derived.Test.YteefopeclfojiaaG11
import Derived.Deep.RegionHeld3
import Derived.Deep.DrawnRows
import Derived.Test.YteefopeclfojiaaG7
/- 
  Layer 24: the law's el and wakes.
 -/
namespace Go.Proofs.Yteefopeclfojiaa
open Go.RowKit
attribute [local go_sem ↓] Go.wp_at_zero Go.wp_at_succ
/-- an element that holds a text. -/
def elF (s : ByteArray) : Fo := if emB s then .nil else .txt s .nil
def elT (n : NmT) (s : ByteArray) : KidT := (n, [], elF s)
theorem elT_t {n : NmT} {s : ByteArray} (h : emB s = true) : flT (elT n s) = [evS n [], evE n] := by unfold elT elF flT; rw [if_pos h]; rfl
theorem elT_f {n : NmT} {s : ByteArray} (h : emB s = false) : flT (elT n s) = [evS n [], evT s, evE n] := by unfold elT elF flT; rw [if_neg (by rw [h]; decide)]; rfl
set_option maxRecDepth 100000 in
set_option maxHeartbeats 4000000 in
theorem law24_el (n s : ByteArray) (w : World) : Calls Try.prog 37 #[.string n, .string s] w fun r w' => ∃ u, r = .returned u ∧ OwnK w.heap.size w' u (flT (elT (spA, n) s)) ∧ Below w.heap.size w w' := by
  have HN := Lib.hid atom_Name
  have e1 := emB_ne s
  cases hs : emB s with
  | true =>
    rw [elT_t hs]
    rw [hs] at e1
    have e2 : s.toList = [] := by unfold emB at hs; simpa using hs
    have e3 : (!s.toList.isEmpty) = false := by rw [e2]; rfl
    clear e1 hs
    go_enter Try.func37, Try.ntmps37
    go_wp2_with fail
    refine (HN.out _ _).mono ?_
    rintro r w1 ⟨rfl, hb1⟩
    have hb2 := (hb1.alloc hb1.size (.cells #[.string spA, .string n] 24))
    have O1 := OwnK.lit (w := w1.alloc (.cells #[.string spA, .string n] 24)) (es := [evS (spA, n) []]) [.slice none 0 0] #[.int .i8 0, .string spA, .string n, .slice none 0 0, .string ⟨#[]⟩] rfl ⟨.inl ⟨rfl, rfl⟩, trivial⟩ 1 rfl (by decide)
    have hb3 := hb2.alloc hb2.size (.cells #[.int .i8 0, .string spA, .string n, .slice none 0 0, .string ⟨#[]⟩] 30)
    have O2 := OwnK.lit (w := (w1.alloc (.cells #[.string spA, .string n] 24)).alloc (.cells #[.int .i8 0, .string spA, .string n, .slice none 0 0, .string ⟨#[]⟩] 30)) (es := [evE (spA, n)]) [.slice none 0 0] #[.int .i8 1, .string spA, .string n, .slice none 0 0, .string ⟨#[]⟩] rfl ⟨.inl ⟨rfl, rfl⟩, trivial⟩ 1 rfl (by decide)
    have hb4 := hb3.alloc hb3.size (.cells #[.int .i8 1, .string spA, .string n, .slice none 0 0, .string ⟨#[]⟩] 30)
    obtain ⟨a1, n1, c1, w5, hrun, O3, hb5⟩ := OwnK.app (O1.alloc _) O2 (by simp) (by simp) (by simp)
    simp only [World.size_alloc] at hrun hb5 O3
    have HR := Lib.hid hrun
    have HO := Lib.hid O3
    have HB := Lib.hid (hb4.trans (hb5.mono (by have := hb1.size; omega)))
    clear hrun hb2 hb3 hb4 hb5 O1 O2 O3
    go_wp2_with (at_builtin; refine wpList_append_run rfl _ _ _ _ rfl _ _ rfl rfl _ _ HR.out ?_; clear HR)
    go_ret
    obtain ⟨avs, k1, k2⟩ := HO.out
    exact ⟨_, rfl, ⟨avs, ownsRow_base k1 (by have := hb1.size; omega), k2⟩, HB.out⟩
  | false =>
    rw [elT_f hs]
    rw [hs] at e1
    have e4 : ¬ s.toList = [] := by unfold emB at hs; simpa using hs
    have e3 : (!s.toList.isEmpty) = true := by simpa using e4
    clear e1 hs
    go_enter Try.func37, Try.ntmps37
    go_wp2_with fail
    refine (HN.out _ _).mono ?_
    rintro r w1 ⟨rfl, hb1⟩
    have hb2 := (hb1.alloc hb1.size (.cells #[.string spA, .string n] 24))
    have NB := RowAt.new w1 #[.string spA, .string n] 24
    have O1 := OwnK.lit (w := w1.alloc (.cells #[.string spA, .string n] 24)) (es := [evS (spA, n) []]) [.slice none 0 0] #[.int .i8 0, .string spA, .string n, .slice none 0 0, .string ⟨#[]⟩] rfl ⟨.inl ⟨rfl, rfl⟩, trivial⟩ 1 rfl (by decide)
    have hb3 := hb2.alloc hb2.size (.cells #[.int .i8 0, .string spA, .string n, .slice none 0 0, .string ⟨#[]⟩] 30)
    have O2 := OwnK.lit (w := (w1.alloc (.cells #[.string spA, .string n] 24)).alloc (.cells #[.int .i8 0, .string spA, .string n, .slice none 0 0, .string ⟨#[]⟩] 30)) (es := [evT s]) [.slice none 0 0] #[.int .i8 2, .string ⟨#[]⟩, .string ⟨#[]⟩, .slice none 0 0, .string s] rfl ⟨.inl ⟨rfl, rfl⟩, trivial⟩ 1 rfl (by decide)
    have hb4 := hb3.alloc hb3.size (.cells #[.int .i8 2, .string ⟨#[]⟩, .string ⟨#[]⟩, .slice none 0 0, .string s] 30)
    obtain ⟨a1, n1, c1, w5, hrun, O3, hb5⟩ := OwnK.app (O1.alloc _) O2 (by simp) (by simp) (by simp)
    replace NB := ((NB.alloc (.cells #[.int .i8 0, .string spA, .string n, .slice none 0 0, .string ⟨#[]⟩] 30)).alloc (.cells #[.int .i8 2, .string ⟨#[]⟩, .string ⟨#[]⟩, .slice none 0 0, .string s] 30)).below hb5 (by simp)
    simp only [World.size_alloc] at hrun hb5 O3
    have HR := Lib.hid hrun
    replace hb4 := hb4.trans (hb5.mono (by have := hb1.size; omega))
    have O4 := OwnK.lit (w := w5) (es := [evE (spA, n)]) [.slice none 0 0] #[.int .i8 1, .string spA, .string n, .slice none 0 0, .string ⟨#[]⟩] rfl ⟨.inl ⟨rfl, rfl⟩, trivial⟩ 1 rfl (by decide)
    have hb6 := hb4.alloc hb4.size (.cells #[.int .i8 1, .string spA, .string n, .slice none 0 0, .string ⟨#[]⟩] 30)
    have hs5 := hb5.size
    obtain ⟨a2, n2, c2, w7, hrun2, O5, hb7⟩ := OwnK.app (O3.alloc _) O4 (by simp) (by simp at hs5 ⊢; omega) (by simp)
    have HR2 := Lib.hid hrun2
    have HO := Lib.hid O5
    have HB := Lib.hid (hb6.trans (hb7.mono (by have := hb1.size; omega)))
    have c0 : w5.cell? ⟨w1.heap.size, 0, none⟩ = some (.string spA) := NB.blk.cell 0 rfl
    have c1' : w5.cell? ⟨w1.heap.size, 1, none⟩ = some (.string n) := NB.blk.cell 1 rfl
    clear hrun hrun2 hb2 hb3 hb4 hb5 hb6 hb7 hs5 O1 O2 O3 O4 O5 NB
    go_wp2_with (first
      | (at_builtin; refine wpList_append_run rfl _ _ _ _ rfl _ _ rfl rfl _ _ HR.out ?_; clear HR)
      | (at_builtin; refine wpList_append_run rfl _ _ _ _ rfl _ _ rfl rfl _ _ HR2.out ?_; clear HR2))
    go_ret
    obtain ⟨avs, k1, k2⟩ := HO.out
    exact ⟨_, rfl, ⟨avs, ownsRow_base k1 (by have := hb1.size; omega), k2⟩, HB.out⟩
/-- the events that close an entry with a link. -/
def clL (u : ByteArray) : List Evt := [evS (spA, ⟨#[108, 105, 110, 107]⟩) [((⟨#[]⟩, ⟨#[104, 114, 101, 102]⟩), u)], evE (spA, ⟨#[108, 105, 110, 107]⟩), evE entryN, evE feedN]
theorem cl_app {W0 W : World} {base : Nat} {v : Value} {es : List Evt} {ab : Nat} (u : ByteArray) (h : OwnK base W0 v es) (hb : Below W0.heap.size W0 W) (hA : RowAt W ab 58 #[.string ⟨#[]⟩, .string ⟨#[104, 114, 101, 102]⟩, .string u]) (hbase : base ≤ W0.heap.size) (hn : es.length ≤ 1000) :
    ∃ a n c w', (Builtin.append_ #[22, 22] 22 #[v, .slice (some ⟨W.heap.size, 0, none⟩) 4 4]).run Try.prog (W.alloc (.cells #[.int .i8 0, .string spA, .string ⟨#[108, 105, 110, 107]⟩, .slice (some ⟨ab, 0, none⟩) 1 1, .string ⟨#[]⟩, .int .i8 1, .string spA, .string ⟨#[108, 105, 110, 107]⟩, .slice none 0 0, .string ⟨#[]⟩, .int .i8 1, .string spA, .string ⟨#[101, 110, 116, 114, 121]⟩, .slice none 0 0, .string ⟨#[]⟩, .int .i8 1, .string spA, .string ⟨#[102, 101, 101, 100]⟩, .slice none 0 0, .string ⟨#[]⟩] 30)) = .ok (.slice a n c) w' ∧ OwnK base w' (.slice a n c) (es ++ clL u) ∧ Below base W0 w' := by
  have k := OwnK.lit (w := W) (es := clL u) [.slice (some ⟨ab, 0, none⟩) 1 1, .slice none 0 0, .slice none 0 0, .slice none 0 0] #[.int .i8 0, .string spA, .string ⟨#[108, 105, 110, 107]⟩, .slice (some ⟨ab, 0, none⟩) 1 1, .string ⟨#[]⟩, .int .i8 1, .string spA, .string ⟨#[108, 105, 110, 107]⟩, .slice none 0 0, .string ⟨#[]⟩, .int .i8 1, .string spA, .string ⟨#[101, 110, 116, 114, 121]⟩, .slice none 0 0, .string ⟨#[]⟩, .int .i8 1, .string spA, .string ⟨#[102, 101, 101, 100]⟩, .slice none 0 0, .string ⟨#[]⟩] rfl ⟨.inr ⟨ab, 1, _, rfl, hA, rfl⟩, .inl ⟨rfl, rfl⟩, .inl ⟨rfl, rfl⟩, .inl ⟨rfl, rfl⟩, trivial⟩ 4 rfl (by decide)
  have hs := hb.size
  obtain ⟨a, n, c, w', h1, h2, h3⟩ := OwnK.app ((h.below hb).alloc (.cells #[.int .i8 0, .string spA, .string ⟨#[108, 105, 110, 107]⟩, .slice (some ⟨ab, 0, none⟩) 1 1, .string ⟨#[]⟩, .int .i8 1, .string spA, .string ⟨#[108, 105, 110, 107]⟩, .slice none 0 0, .string ⟨#[]⟩, .int .i8 1, .string spA, .string ⟨#[101, 110, 116, 114, 121]⟩, .slice none 0 0, .string ⟨#[]⟩, .int .i8 1, .string spA, .string ⟨#[102, 101, 101, 100]⟩, .slice none 0 0, .string ⟨#[]⟩] 30)) k (by simp [clL]) (by simp; omega) (by simp [clL]; omega)
  exact ⟨a, n, c, w', h1, h2, ((hb.mono hbase).alloc (by omega) _).trans h3⟩
/-- a row of one item. -/
theorem own_one {base : Nat} {w : World} {v : Value} {x : Itm} (h : OwnX base w v [x]) : ∃ g c, v = .slice (some ⟨g, 0, none⟩) 1 c ∧ (∀ j u, (itC x)[j]? = some u → w.cell? ⟨g, j, none⟩ = some u) ∧ g < w.heap.size := by
  rcases h.2 with ⟨_, h0⟩ | ⟨g, cap, cur, rfl, g1, g2, g3, g4, g5, g6⟩
  · exact absurd (show 1 = 0 from h0) (by decide)
  · refine ⟨g, cap, rfl, fun j u hj => ?_, (Array.getElem?_eq_some_iff.1 g2).1⟩
    have hc := World.ownsRow.cells h (g := g) rfl j u (by simpa [itsC] using hj)
    rwa [addr0, Nat.zero_add] at hc
set_option maxRecDepth 100000 in
set_option maxHeartbeats 8000000 in
theorem law24_wakes (w : World) : Calls Try.prog 30 #[] w fun r w' => r = .returned (.bool true) ∧ Below w.heap.size w w' := by
  have HN := Lib.hid atom_Name
  have HE := Lib.hid (law24_el ⟨#[105, 100]⟩ ⟨#[120]⟩)
  go_enter Try.func30, Try.ntmps30
  go_wp2_with fail
  refine (HN.out _ _).mono ?_
  rintro r w1 ⟨rfl, hb1⟩
  go_wp2_with fail
  refine (HN.out _ _).mono ?_
  rintro r w2 ⟨rfl, hb2⟩
  have hB := hb1.trans (hb2.mono hb1.size)
  have hww := hB.size
  have N1 := (RowAt.new w2 #[.string spA, .string ⟨#[102, 101, 101, 100]⟩] 24).alloc (.cells #[.string spA, .string ⟨#[101, 110, 116, 114, 121]⟩] 24)
  have N2 := RowAt.new (w2.alloc (.cells #[.string spA, .string ⟨#[102, 101, 101, 100]⟩] 24)) #[.string spA, .string ⟨#[101, 110, 116, 114, 121]⟩] 24
  rw [World.size_alloc] at N2
  replace hB := (hB.alloc hB.size (.cells #[.string spA, .string ⟨#[102, 101, 101, 100]⟩] 24)).alloc (by have := hB.size; simp; omega) (.cells #[.string spA, .string ⟨#[101, 110, 116, 114, 121]⟩] 24)
  have hs3 : ((w2.alloc (.cells #[.string spA, .string ⟨#[102, 101, 101, 100]⟩] 24)).alloc (.cells #[.string spA, .string ⟨#[101, 110, 116, 114, 121]⟩] 24)).heap.size = w2.heap.size + 1 + 1 := by simp
  have O1 := OwnK.lit (w := (w2.alloc (.cells #[.string spA, .string ⟨#[102, 101, 101, 100]⟩] 24)).alloc (.cells #[.string spA, .string ⟨#[101, 110, 116, 114, 121]⟩] 24)) (es := [evS feedN [], evS entryN []]) [.slice none 0 0, .slice none 0 0] #[.int .i8 0, .string spA, .string ⟨#[102, 101, 101, 100]⟩, .slice none 0 0, .string ⟨#[]⟩, .int .i8 0, .string spA, .string ⟨#[101, 110, 116, 114, 121]⟩, .slice none 0 0, .string ⟨#[]⟩] rfl ⟨.inl ⟨rfl, rfl⟩, .inl ⟨rfl, rfl⟩, trivial⟩ 2 rfl (by decide)
  replace N1 := N1.alloc (.cells #[.int .i8 0, .string spA, .string ⟨#[102, 101, 101, 100]⟩, .slice none 0 0, .string ⟨#[]⟩, .int .i8 0, .string spA, .string ⟨#[101, 110, 116, 114, 121]⟩, .slice none 0 0, .string ⟨#[]⟩] 30)
  replace N2 := N2.alloc (.cells #[.int .i8 0, .string spA, .string ⟨#[102, 101, 101, 100]⟩, .slice none 0 0, .string ⟨#[]⟩, .int .i8 0, .string spA, .string ⟨#[101, 110, 116, 114, 121]⟩, .slice none 0 0, .string ⟨#[]⟩] 30)
  replace hB := hB.alloc hB.size (.cells #[.int .i8 0, .string spA, .string ⟨#[102, 101, 101, 100]⟩, .slice none 0 0, .string ⟨#[]⟩, .int .i8 0, .string spA, .string ⟨#[101, 110, 116, 114, 121]⟩, .slice none 0 0, .string ⟨#[]⟩] 30)
  rw [hs3] at O1
  clear hb1 hb2 hs3
  go_wp2_with fail
  generalize ((w2.alloc (.cells #[.string spA, .string ⟨#[102, 101, 101, 100]⟩] 24)).alloc (.cells #[.string spA, .string ⟨#[101, 110, 116, 114, 121]⟩] 24)).alloc (.cells #[.int .i8 0, .string spA, .string ⟨#[102, 101, 101, 100]⟩, .slice none 0 0, .string ⟨#[]⟩, .int .i8 0, .string spA, .string ⟨#[101, 110, 116, 114, 121]⟩, .slice none 0 0, .string ⟨#[]⟩] 30) = w3 at O1 N1 N2 hB ⊢
  refine (HE.out _).mono ?_
  rintro r w4 ⟨u, rfl, OU, hb4⟩
  have hlt : w2.heap.size + 1 + 1 ≤ w4.heap.size := by
    have h1 := N2.lt
    have h2 := hb4.size
    omega
  obtain ⟨a5, n5, c5, w5, hrun, O5, hb5⟩ := OwnK.app (O1.below hb4) OU (by simp [flT]) hlt (by rw [elT_f (by decide +kernel)]; decide)
  replace N1 := (N1.below hb4 N1.lt).below hb5 (by omega)
  replace N2 := (N2.below hb4 N2.lt).below hb5 (by omega)
  replace hB := (hB.trans (hb4.mono hB.size)).trans (hb5.mono (by have := hB.size; have := N1.lt; omega))
  obtain ⟨ua, un, uc, rfl⟩ := OU.form
  have HR := Lib.hid hrun
  clear hrun O1 OU HE hb4
  go_wp2_with (at_builtin; refine wpList_append_run rfl _ _ _ _ rfl _ _ rfl rfl _ _ HR.out ?_; clear HR)
  generalize w2.heap.size = q at hww O5 N1 N2 hlt hb5 ⊢
  have hW : Below w5.heap.size w5 w5.drew := (Below.refl _ w5).drew
  have HCL := Lib.hid (fun (W : World) (ab : Nat) (hb : Below w5.heap.size w5 W) (hA : RowAt W ab 58 #[.string ⟨#[]⟩, .string ⟨#[104, 114, 101, 102]⟩, .string ⟨#[117]⟩]) => cl_app ⟨#[117]⟩ O5 hb hA (by have := hb5.size; omega) (by rw [elT_f (by decide +kernel)]; decide))
  have d0 : w5.drew.cell? ⟨q, 0, none⟩ = some (.string spA) := N1.blk.cell 0 rfl
  have d1 : w5.drew.cell? ⟨q, 1, none⟩ = some (.string ⟨#[102, 101, 101, 100]⟩) := N1.blk.cell 1 rfl
  have d2 : w5.drew.cell? ⟨q + 1, 0, none⟩ = some (.string spA) := N2.blk.cell 0 rfl
  have d3 : w5.drew.cell? ⟨q + 1, 1, none⟩ = some (.string ⟨#[101, 110, 116, 114, 121]⟩) := N2.blk.cell 1 rfl
  have HNS := Lib.hid (fun (W : World) (hb : Below (q + 1 + 1) w5 W) => (⟨(N1.below hb (by omega)).blk.cell 0 rfl, (N1.below hb (by omega)).blk.cell 1 rfl, (N2.below hb (by omega)).blk.cell 0 rfl, (N2.below hb (by omega)).blk.cell 1 rfl⟩ : W.cell? ⟨q, 0, none⟩ = some (.string spA) ∧ W.cell? ⟨q, 1, none⟩ = some (.string ⟨#[102, 101, 101, 100]⟩) ∧ W.cell? ⟨q + 1, 0, none⟩ = some (.string spA) ∧ W.cell? ⟨q + 1, 1, none⟩ = some (.string ⟨#[101, 110, 116, 114, 121]⟩)))
  have hq5 : q + 1 + 1 ≤ w5.heap.size := N2.lt
  have hA0 : RowAt (w5.alloc (.cells #[.string ⟨#[]⟩, .string ⟨#[104, 114, 101, 102]⟩, .string ⟨#[117]⟩] 58)).drew w5.heap.size 58 #[.string ⟨#[]⟩, .string ⟨#[104, 114, 101, 102]⟩, .string ⟨#[117]⟩] := RowAt.new w5 _ _
  have hW0 : Below w5.heap.size w5 (w5.alloc (.cells #[.string ⟨#[]⟩, .string ⟨#[104, 114, 101, 102]⟩, .string ⟨#[117]⟩] 58)).drew := ((Below.refl _ w5).alloc (Nat.le_refl _) _).drew
  clear O5 N1 N2
  have TEST := HNS.out _ (hW0.mono hq5)
  go_region_held3 (fun w' => w'.cell? ⟨q, 0, none⟩ = some (.string spA) ∧ w'.cell? ⟨q, 1, none⟩ = some (.string ⟨#[102, 101, 101, 100]⟩) ∧ w'.cell? ⟨q + 1, 0, none⟩ = some (.string spA) ∧ w'.cell? ⟨q + 1, 1, none⟩ = some (.string ⟨#[101, 110, 116, 114, 121]⟩)) (first | go_keep | exact ⟨d0, d1, d2, d3⟩ | exact HNS.out _ (hW.mono hq5) | exact HNS.out _ ((hW.alloc hW.size _).mono hq5) | exact HNS.out _ (((hW.alloc hW.size _).alloc (hW.alloc hW.size _).size _).mono hq5) | exact HNS.out _ (hW0.mono hq5) | exact HNS.out _ ((hW0.alloc hW0.size _).mono hq5) | exact HNS.out _ hbF)
    (first
      | (go_at_call 31; refine (HN.out _ _).mono ?_; rintro r wN ⟨rfl, hbN⟩; first
        | (have hA := hA0.below hbN hA0.lt; have hW := hW0.trans (hbN.mono hW0.size))
        | (have hA := (RowAt.new _ #[.string ⟨#[]⟩, .string ⟨#[104, 114, 101, 102]⟩, .string ⟨#[117]⟩] 58).below hbN (by simp); have hW := (hW.alloc hW.size _).trans (hbN.mono (hW.alloc hW.size _).size))
        | (have hA := hA.below hbN hA.lt; have hW := hW.trans (hbN.mono hW.size))
        | (have hW := hW.trans (hbN.mono hW.size)))
      | (obtain ⟨a6, n6, c6, w6, hrun6, O6, hbF⟩ := HCL.out _ _ hW hA; refine step_app_run rfl (.tmp 16) (.tmp 28) 22 22 rfl _ _ (by simp [Act.eval]) (by simp [Act.eval]) _ _ hrun6 ?_)
      | (obtain ⟨a6, n6, c6, w6, hrun6, O6, hbF⟩ := HCL.out _ _ (hW.alloc hW.size _) (RowAt.new _ #[.string ⟨#[]⟩, .string ⟨#[104, 114, 101, 102]⟩, .string ⟨#[117]⟩] 58); refine step_app_run rfl (.tmp 16) (.tmp 28) 22 22 rfl _ _ (by simp [Act.eval]) (by simp [Act.eval]) _ _ hrun6 ?_))
  all_goals
    rw [elT_f (by decide +kernel), show ([evS feedN [], evS entryN []] ++ [evS (spA, ⟨#[105, 100]⟩) [], evT ⟨#[120]⟩, evE (spA, ⟨#[105, 100]⟩)] ++ clL ⟨#[117]⟩) = flT wkT from rfl] at O6
    have hB6 := hB.trans (hbF.mono (by omega))
    obtain ⟨hf1, hf2⟩ := feed_flT wkT wkT_wf
    rw [wkT_feed] at hf1
    have hE6 : FEv w6.heap.size (flT wkT) (.slice a6 n6 c6) w6 := ⟨O6.reads, Nat.le_refl _, by decide, by decide +kernel, by decide +kernel, O6.cap⟩
    have HFD := Lib.hid (atom_Feed w6.heap.size (flT wkT) (.slice a6 n6 c6) w6 hE6)
    have HE6 := Lib.hid hE6
    have HF1 := Lib.hid hf1
    have HF2 := Lib.hid (show isP (flT wkT) = true by rw [hf2]; decide +kernel)
    have HB6 := Lib.hid hB6
    try clear hA
    clear hf1 hf2 hE6 O6 hB6 hrun6 hbF hW HCL HNS hA0 hW0 TEST d0 d1 d2 d3
    go_wp2_with fail
    refine (HFD.out).mono ?_
    rintro r w7 ⟨v7, rfl, hraw, hb7⟩
    rw [HF1.out] at hraw
    obtain ⟨vi, rfl, hown⟩ := hraw
    obtain ⟨g, cp, rfl, hcl, hgl⟩ := own_one hown
    have i0 : w7.cell? ⟨g, 0, none⟩ = some (.string ⟨#[120]⟩) := hcl 0 _ rfl
    have i2 : w7.cell? ⟨g, 2, none⟩ = some (.string ⟨#[117]⟩) := hcl 2 _ rfl
    have HB7 := Lib.hid (HB6.out.trans (hb7.mono HB6.out.size))
    have HIS := Lib.hid (fun (u : World) (hu : Below w6.heap.size w6 u) => atom_Is w6.heap.size (flT wkT) (.slice a6 n6 c6) u (HE6.out.below hu))
    have hb8 := hb7.alloc hb7.size (.cells (rawC 3 Itm.none (.slice (some ⟨g, 0, none⟩) 1 cp)) 50)
    rw [HF2.out]
    rw [HF2.out] at HIS
    have HB8 := Lib.hid hb8
    clear hb8 hown hcl hb7 HFD HE6
    unfold rawC
    go_wp2_with fail
    refine (HIS.out _ HB8.out).mono ?_
    rintro r w9 ⟨rfl, hb9⟩
    go_wp2_with fail
    go_ret
    exact ⟨rfl, (HB6.out.trans (HB8.out.mono HB6.out.size)).trans (hb9.mono (Nat.le_trans HB6.out.size HB8.out.size))⟩
end Go.Proofs.Yteefopeclfojiaa
/- 
  Layer 24: the laws AtomNames, AtomFinds.
 -/
namespace Go.Proofs.Yteefopeclfojiaa
open Go.RowKit
set_option maxRecDepth 100000 in
set_option maxHeartbeats 4000000 in
theorem law_AtomNames (s : ByteArray) (w : World) : Calls Try.prog 7 #[.string s] w fun r w' => r = .returned (.bool true) ∧ Below w.heap.size w w' := by
  have HW := Lib.hid law24_wakes
  have H1 := Lib.hid atom_Name
  have H2 := Lib.hid atom_Core
  have H3 := Lib.hid ref24_Name
  have H4 := Lib.hid ref24_Core
  by_cases h : 200 < s.size
  · have hd := decide_eq_true (show (200 : Int) < (s.size : Int) by omega)
    go_enter Try.func7, Try.ntmps7
    go_wp2_with fail
    refine (HW.out _).mono ?_
    rintro r w1 ⟨rfl, hb⟩
    go_wp2_with fail
    go_ret
    exact ⟨rfl, hb⟩
  · have hd := decide_eq_false (show ¬ (200 : Int) < (s.size : Int) by omega)
    have t0 := toL_self s
    have t1 := toL_self spA
    have t2 := toL_self spC
    go_enter Try.func7, Try.ntmps7
    go_wp2_with fail
    refine (H1.out _ _).mono ?_
    rintro r w1 ⟨rfl, hb1⟩
    go_wp2_with fail
    refine (H3.out _ _).mono ?_
    rintro r w2 ⟨rfl, hb2⟩
    go_wp2_with fail
    refine (H2.out _ _).mono ?_
    rintro r w3 ⟨rfl, hb3⟩
    go_wp2_with fail
    refine (H4.out _ _).mono ?_
    rintro r w4 ⟨rfl, hb4⟩
    go_wp2_with fail
    refine (HW.out _).mono ?_
    rintro r w5 ⟨rfl, hb5⟩
    go_wp2_with fail
    go_ret
    exact ⟨rfl, bt (bt (bt (bt hb1 hb2) hb3) hb4) hb5⟩
theorem StrsAt.reads {w : World} {v : Value} {ns : List ByteArray} (h : Reads w.heap.size w v (ns.map Value.string)) : StrsAt w v ns := by
  obtain ⟨h1, a, cap, rfl, h2⟩ := h
  refine ⟨a, cap, by rw [List.length_map], fun k hk => ?_⟩
  rcases h2 with h2 | ⟨b, off, rfl, hb, h3⟩
  · rw [List.map_eq_nil_iff] at h2
    subst h2
    simp at hk
  · have h4 := h3 k (by rw [List.length_map]; exact hk)
    rw [List.getElem_map] at h4
    exact ⟨b, off, rfl, hb, h4⟩
theorem kidsP_none {es : List Evt} {i : Int} (h : atP es i = none) : kidsP es i = [] := by unfold kidsP; rw [h]
theorem txtOf_none {es : List Evt} {i : Int} (h : atP es i = none) (nm : ByteArray × ByteArray) : txtOf es i nm = ⟨#[]⟩ := by unfold txtOf fstP; rw [kidsP_none h]; rfl
theorem emptyB_nil : emptyB ⟨#[]⟩ = true := by decide +kernel
theorem linkQ_eq (es : List Evt) (i : Int) : linkQ es i = linkP es i := by
  unfold linkQ
  cases h : atP es i with
  | none => rw [linkP_kids, kidsP_none h]; rfl
  | some g => rfl
theorem dateQ_eq (es : List Evt) (i : Int) (ns : List ByteArray) : dateQ es i ns = dateP es i ns := by
  unfold dateQ
  cases h : atP es i with
  | none =>
    show ((⟨#[]⟩ : ByteArray), (0 : Int)) = _
    induction ns with
    | nil => rw [dateP, txtOf_none h, emptyB_nil]; rfl
    | cons n ns ih => rw [dateP, txtOf_none h, emptyB_nil, if_pos rfl, ← ih]
  | some g => rfl
theorem GreatOk.fev {es : List Evt} {v : Value} {w : World} (h : GreatOk es) (hl : EvsIn w v es) : FEv w.heap.size es v w :=
  ⟨hl.r, Nat.le_refl _, by have := h.len; omega, fun e he => by have := h.ats e he; omega, by have := h.txs; omega, hl.cap⟩
set_option maxRecDepth 100000 in
set_option maxHeartbeats 16000000 in
theorem law_AtomFinds (v : Value) (es : List Evt) (i : Int) (nv : Value) (ns : List ByteArray) (w : World) (hl : EvsIn w v es) (hN : Reads w.heap.size w nv (ns.map Value.string)) :
    Calls Try.prog 10 #[v, .int .i64 i, nv] w fun r w' => r = .returned (.bool true) ∧ Below w.heap.size w w' := by
  have hS := StrsAt.reads hN
  have hnl : ns.length ≤ maxLen := by have := hN.1; rwa [List.length_map] at this
  unfold maxLen at hnl
  obtain ⟨avs, ⟨a, cap, rfl, -⟩, -⟩ := id hl.r
  obtain ⟨na0, ncap, rfl, -⟩ := id hS
  have G1 := Lib.hid (ref16_Great w.heap.size es _ w hl.r (Nat.le_refl _) hl.at_.n hl.small)
  have HW := Lib.hid law24_wakes
  have HL := Lib.hid hl
  have HS := Lib.hid (fun (u : World) (hu : Below w.heap.size w u) => hS.below hu)
  obtain ⟨m, hm⟩ : ∃ m, ns.length = m := ⟨_, rfl⟩
  have HM := Lib.hid hm
  rw [hm] at hnl HS ⊢
  clear hl hN hS hm
  go_enter Try.func10, Try.ntmps10
  go_wp2_with fail
  refine (G1.out).mono ?_
  rintro r w1 ⟨b1, rfl, hg1, hb1⟩
  cases b1 with
  | true =>
    clear hg1
    go_wp2_with fail
    refine (HW.out _).mono ?_
    rintro r w9 ⟨rfl, hb9⟩
    go_wp2_with fail
    go_ret
    exact ⟨rfl, bt hb1 hb9⟩
  | false =>
    have hE0 := (hg1 rfl).fev HL.out
    have FE := Lib.hid (fun (u : World) (hu : Below w.heap.size w u) => hE0.below hu)
    clear hg1 hE0 G1 HL
    by_cases h20 : 20 < m
    · have hd := decide_eq_true (show (20 : Int) < (m : Int) by omega)
      go_wp2_with fail
      refine (HW.out _).mono ?_
      rintro r w9 ⟨rfl, hb9⟩
      go_wp2_with fail
      go_ret
      exact ⟨rfl, bt hb1 hb9⟩
    · have hd := decide_eq_false (show ¬ (20 : Int) < (m : Int) by omega)
      go_wp2_with fail
      clear hd
      go_loop [7] (fun i => ∃ k : Nat, i = .int .i64 k ∧ k ≤ m) (fun i => m - (intOf i).toNat)
      case atStart => exact ⟨0, rfl, Nat.zero_le _⟩
      case round =>
        obtain ⟨k, rfl, hk⟩ := hrel
        by_cases hlt : k < m
        · have hd := decide_eq_true (show (k : Int) < (m : Int) by omega)
          obtain ⟨a2, c2, h2, h3⟩ := HS.out w1 hb1
          injection h2 with h4 h5 h6
          obtain ⟨q, o, hq, hql, hc⟩ := h3 k (by rw [HM.out]; exact hlt)
          subst h4
          subst hq
          obtain ⟨n, hn⟩ : ∃ n, ns[k]'(by rw [HM.out]; exact hlt) = n := ⟨_, rfl⟩
          rw [hn] at hc
          clear h3 h5 h6 hn
          by_cases h200 : 200 < n.size
          · have hd2 := decide_eq_true (show (200 : Int) < (n.size : Int) by omega)
            go_wp2_with fail
            refine (HW.out _).mono ?_
            rintro r w9 ⟨rfl, hb9⟩
            go_wp2_with fail
            go_ret
            exact ⟨rfl, bt hb1 hb9⟩
          · have hd2 := decide_eq_false (show ¬ (200 : Int) < (n.size : Int) by omega)
            go_wp2_with fail
            exact ⟨⟨k + 1, by go_num, by omega⟩, by simp [intOf]; omega⟩
        · have hd := decide_eq_false (show ¬ (k : Int) < (m : Int) by omega)
          have hDA := fun (u : World) (hu : Below w.heap.size w u) => atom_Date w.heap.size es (.slice a es.length cap) i ns (.slice na0 m ncap) u (FE.out u hu) (HS.out u hu) (by rw [HM.out]; omega)
          have hDB := fun (u : World) (hu : Below w.heap.size w u) => ref24_Date w.heap.size es (.slice a es.length cap) i ns (.slice na0 m ncap) u (FE.out u hu) (HS.out u hu) (by rw [HM.out]; omega)
          have hLA := fun (u : World) (hu : Below w.heap.size w u) => atom_Link w.heap.size es (.slice a es.length cap) i u (FE.out u hu)
          have hLB := fun (u : World) (hu : Below w.heap.size w u) => ref24_Link w.heap.size es (.slice a es.length cap) i u (FE.out u hu)
          have hIA := fun (u : World) (hu : Below w.heap.size w u) => atom_Is w.heap.size es (.slice a es.length cap) u (FE.out u hu)
          have hIB := fun (u : World) (hu : Below w.heap.size w u) => ref24_Is w.heap.size es (.slice a es.length cap) u (FE.out u hu)
          have hFA := fun (u : World) (hu : Below w.heap.size w u) => atom_Feed w.heap.size es (.slice a es.length cap) u (FE.out u hu)
          have hFB := fun (u : World) (hu : Below w.heap.size w u) => ref24_Feed w.heap.size es (.slice a es.length cap) u (FE.out u hu)
          have hRL : (feedQ es).items.length ≤ 1000000 := by
            have h1 : (namedP es 0 entryN).length ≤ es.length := named_len es 0 entryN
            have h2 := (FE.out w1 hb1).n
            unfold feedQ
            split
            · show (List.map _ _).length ≤ _
              rw [List.length_map]
              omega
            · exact Nat.zero_le _
          rw [dateQ_eq] at hDA
          rw [linkQ_eq] at hLA
          obtain ⟨R, hR⟩ : ∃ R, feedQ es = R := ⟨_, rfl⟩
          obtain ⟨I, hI⟩ : ∃ R, isP es = R := ⟨_, rfl⟩
          obtain ⟨D, hD⟩ : ∃ R, dateP es i ns = R := ⟨_, rfl⟩
          obtain ⟨L, hL⟩ : ∃ R, linkP es i = R := ⟨_, rfl⟩
          rw [hR] at hFA hFB hRL
          rw [hI] at hIA hIB hFA hFB
          rw [hD] at hDA hDB
          rw [hL] at hLA hLB
          obtain ⟨nn, hnn⟩ : ∃ n, es.length = n := ⟨_, rfl⟩
          rw [hnn] at hDA hDB hLA hLB hIA hIB hFA hFB ⊢
          have HDA := Lib.hid hDA
          have HDB := Lib.hid hDB
          have HLA := Lib.hid hLA
          have HLB := Lib.hid hLB
          have HIA := Lib.hid hIA
          have HIB := Lib.hid hIB
          have HFA := Lib.hid hFA
          have HFB := Lib.hid hFB
          have HSM := Lib.hid (fun (x y : Value) (u : World) (hx : CReads u.heap.size u x R.items.length (itsC R.items)) (hy : CReads u.heap.size u y R.items.length (itsC R.items)) => ref24_Same R x y u hx hy hRL)
          clear hDA hDB hLA hLB hIA hIB hFA hFB hR hI hD hL hnn hRL
          have q1 := toL_self D.1
          have q2 := toL_self L
          go_wp2_with fail
          refine (HFA.out _ hb1).mono ?_
          rintro r w2 ⟨u1, rfl, ⟨x1, rfl, hx1⟩, hb2⟩
          replace hb2 := bt hb1 hb2
          obtain ⟨pa, na, ca, rfl⟩ := hx1.form
          have CX := CReads.of_own hx1
          have B1 := RowAt.new w2 #[.int .i8 R.fmt, .string R.head.id, .string R.head.title, .string R.head.link, .string R.head.author, .string R.head.content, .string R.head.date, .int .i8 R.head.kind, .slice pa na ca] 50
          have hb3 := hb2.alloc hb2.size (.cells #[.int .i8 R.fmt, .string R.head.id, .string R.head.title, .string R.head.link, .string R.head.author, .string R.head.content, .string R.head.date, .int .i8 R.head.kind, .slice pa na ca] 50)
          have hba : Below w2.heap.size w2 (w2.alloc (.cells #[.int .i8 R.fmt, .string R.head.id, .string R.head.title, .string R.head.link, .string R.head.author, .string R.head.content, .string R.head.date, .int .i8 R.head.kind, .slice pa na ca] 50)) := (Below.refl _ w2).alloc (Nat.le_refl _) _
          replace CX := (CX.below hba (Nat.le_refl _)).mono hba.size
          unfold rawC
          go_wp2_with fail
          generalize w2.alloc (.cells #[.int .i8 R.fmt, .string R.head.id, .string R.head.title, .string R.head.link, .string R.head.author, .string R.head.content, .string R.head.date, .int .i8 R.head.kind, .slice pa na ca] 50) = w3 at B1 hb3 CX ⊢
          generalize w2.heap.size = g1 at B1 ⊢
          clear hx1 hba hb2
          refine (HFB.out _ hb3).mono ?_
          rintro r w4 ⟨u2, rfl, ⟨x2, rfl, hx2⟩, hb4⟩
          replace B1 := B1.below hb4 B1.lt
          replace CX := (CX.below hb4 (Nat.le_refl _)).mono hb4.size
          replace hb4 := bt hb3 hb4
          obtain ⟨pb, nb, cb, rfl⟩ := hx2.form
          have CY := CReads.of_own hx2
          have B2 := RowAt.new w4 #[.int .i8 R.fmt, .string R.head.id, .string R.head.title, .string R.head.link, .string R.head.author, .string R.head.content, .string R.head.date, .int .i8 R.head.kind, .slice pb nb cb] 50
          replace B1 := B1.alloc (.cells #[.int .i8 R.fmt, .string R.head.id, .string R.head.title, .string R.head.link, .string R.head.author, .string R.head.content, .string R.head.date, .int .i8 R.head.kind, .slice pb nb cb] 50)
          have hb5 := hb4.alloc hb4.size (.cells #[.int .i8 R.fmt, .string R.head.id, .string R.head.title, .string R.head.link, .string R.head.author, .string R.head.content, .string R.head.date, .int .i8 R.head.kind, .slice pb nb cb] 50)
          have hba : Below w4.heap.size w4 (w4.alloc (.cells #[.int .i8 R.fmt, .string R.head.id, .string R.head.title, .string R.head.link, .string R.head.author, .string R.head.content, .string R.head.date, .int .i8 R.head.kind, .slice pb nb cb] 50)) := (Below.refl _ w4).alloc (Nat.le_refl _) _
          replace CX := (CX.below hba (Nat.le_refl _)).mono hba.size
          replace CY := (CY.below hba (Nat.le_refl _)).mono hba.size
          unfold rawC
          go_wp2_with fail
          generalize w4.alloc (.cells #[.int .i8 R.fmt, .string R.head.id, .string R.head.title, .string R.head.link, .string R.head.author, .string R.head.content, .string R.head.date, .int .i8 R.head.kind, .slice pb nb cb] 50) = w5 at B1 B2 hb5 CX CY ⊢
          generalize w4.heap.size = g2 at B2 ⊢
          clear hx2 hba hb4 hb3
          refine (HDA.out _ hb5).mono ?_
          rintro r w6 ⟨rfl, hb6⟩
          replace B1 := B1.below hb6 B1.lt
          replace B2 := B2.below hb6 B2.lt
          replace CX := (CX.below hb6 (Nat.le_refl _)).mono hb6.size
          replace CY := (CY.below hb6 (Nat.le_refl _)).mono hb6.size
          replace hb6 := bt hb5 hb6
          clear hb5
          go_wp2_with fail
          refine (HDB.out _ hb6).mono ?_
          rintro r w7 ⟨rfl, hb7⟩
          replace B1 := B1.below hb7 B1.lt
          replace B2 := B2.below hb7 B2.lt
          replace CX := (CX.below hb7 (Nat.le_refl _)).mono hb7.size
          replace CY := (CY.below hb7 (Nat.le_refl _)).mono hb7.size
          replace hb7 := bt hb6 hb7
          clear hb6
          have x0 : w7.cell? ⟨g1, 0, none⟩ = some (.int .i8 R.fmt) := B1.blk.cell 0 rfl
          have x1 : w7.cell? ⟨g1, 1, none⟩ = some (.string R.head.id) := B1.blk.cell 1 rfl
          have x2 : w7.cell? ⟨g1, 2, none⟩ = some (.string R.head.title) := B1.blk.cell 2 rfl
          have x3 : w7.cell? ⟨g1, 3, none⟩ = some (.string R.head.link) := B1.blk.cell 3 rfl
          have x4 : w7.cell? ⟨g1, 4, none⟩ = some (.string R.head.author) := B1.blk.cell 4 rfl
          have x5 : w7.cell? ⟨g1, 5, none⟩ = some (.string R.head.content) := B1.blk.cell 5 rfl
          have x6 : w7.cell? ⟨g1, 6, none⟩ = some (.string R.head.date) := B1.blk.cell 6 rfl
          have x7 : w7.cell? ⟨g1, 7, none⟩ = some (.int .i8 R.head.kind) := B1.blk.cell 7 rfl
          have x8 : w7.cell? ⟨g1, 8, none⟩ = some (.slice pa na ca) := B1.blk.cell 8 rfl
          have y0 : w7.cell? ⟨g2, 0, none⟩ = some (.int .i8 R.fmt) := B2.blk.cell 0 rfl
          have y1 : w7.cell? ⟨g2, 1, none⟩ = some (.string R.head.id) := B2.blk.cell 1 rfl
          have y2 : w7.cell? ⟨g2, 2, none⟩ = some (.string R.head.title) := B2.blk.cell 2 rfl
          have y3 : w7.cell? ⟨g2, 3, none⟩ = some (.string R.head.link) := B2.blk.cell 3 rfl
          have y4 : w7.cell? ⟨g2, 4, none⟩ = some (.string R.head.author) := B2.blk.cell 4 rfl
          have y5 : w7.cell? ⟨g2, 5, none⟩ = some (.string R.head.content) := B2.blk.cell 5 rfl
          have y6 : w7.cell? ⟨g2, 6, none⟩ = some (.string R.head.date) := B2.blk.cell 6 rfl
          have y7 : w7.cell? ⟨g2, 7, none⟩ = some (.int .i8 R.head.kind) := B2.blk.cell 7 rfl
          have y8 : w7.cell? ⟨g2, 8, none⟩ = some (.slice pb nb cb) := B2.blk.cell 8 rfl
          have HSM2 := Lib.hid (HSM.out _ _ w7 CX CY)
          clear HSM CX CY B1 B2
          go_wp2_with fail
          refine (HSM2.out).mono ?_
          rintro r w8 ⟨rfl, hb8⟩
          replace hb8 := bt hb7 hb8
          clear hb7 x0 y0 x1 y1 x2 y2 x3 y3 x4 y4 x5 y5 x6 y6 x7 y7 x8 y8
          go_wp2_with fail
          refine (HIA.out _ hb8).mono ?_
          rintro r w9 ⟨rfl, hb9⟩
          replace hb9 := bt hb8 hb9
          go_wp2_with fail
          refine (HIB.out _ hb9).mono ?_
          rintro r w10 ⟨rfl, hb10⟩
          replace hb10 := bt hb9 hb10
          go_wp2_with fail
          refine (HLA.out _ hb10).mono ?_
          rintro r w11 ⟨rfl, hb11⟩
          replace hb11 := bt hb10 hb11
          go_wp2_with fail
          refine (HLB.out _ hb11).mono ?_
          rintro r w12 ⟨rfl, hb12⟩
          replace hb12 := bt hb11 hb12
          go_wp2_with fail
          refine (HW.out _).mono ?_
          rintro r w13 ⟨rfl, hb13⟩
          go_wp2_with fail
          go_ret
          exact ⟨rfl, bt hb12 hb13⟩
end Go.Proofs.Yteefopeclfojiaa
