/-
  Layer 16: the walk of events.texts.
-/
import Derived.Test.YteefopeclfojiaaEvC
import Derived.Test.YteefopeclfojiaaBd
import Derived.Lib.AppendStr
namespace Go.Proofs.Yteefopeclfojiaa
open Go.RowKit
/-- a builder that holds the bytes xs; with none it is as new. -/
def BdY (w : World) (b base : Nat) (xs : List Int) : Prop := ∃ v, BdAt w b base v xs ∧ (xs = [] → v = .slice none 0 0)
theorem BdY.new (w : World) : BdY (w.alloc (.cells #[.pointer none, .slice none 0 0] 114)) w.heap.size (w.heap.size + 1) [] :=
  ⟨_, ⟨⟨_, .inl rfl, heap_alloc_new w _⟩, World.ownsRow_nil _ _ _ _, Nat.lt_succ_self _⟩, fun _ => rfl⟩
theorem BdY.below {w w' : World} {b base : Nat} {xs : List Int} (h : BdY w b base xs) (hb : Below w.heap.size w w') : BdY w' b base xs := by
  obtain ⟨v, ⟨⟨p, hp, hk⟩, ho, hl⟩, hz⟩ := h
  have hlt : b < w.heap.size := (Array.getElem?_eq_some_iff.1 hk).1
  exact ⟨v, ⟨⟨p, hp, (hb.block b hlt).trans hk⟩, own_below ho hb (Nat.le_refl _), hl⟩, hz⟩
theorem app_str_y (wr : World) (base : Nat) (v : Value) (n : Nat) (xs : List Int) (hown : wr.ownsRow base 5 1 v n (xs.map (Value.int .u8))) (s : ByteArray) (hn : n + s.size < 140737488355329) (hbase : base ≤ wr.heap.size) :
    ∃ v' w', (Builtin.append_ #[112, 9] 112 #[v, .string s]).run Try.prog wr = .ok v' w' ∧
      w'.ownsRow base 5 1 v' (n + s.size) ((xs ++ s.data.toList.map fun c => (c.toNat : Int)).map (Value.int .u8)) ∧ wr.grownBy w' v.ownBlock ∧ (v = .slice none 0 0 → s.size = 0 → v' = .slice none 0 0) := by
  obtain ⟨i0, hi, hz0, hz1, hz2⟩ := info_parts infoU8
  obtain ⟨v', w', h1, h2, h3, h4⟩ := Lib.run_append_own_string (P := Try.prog) wr base 112 9 112 5 i0 Try.underlying112 Try.underlying9 hi hz0 hz1 hz2 v n _ hown s (by unfold maxLen; omega) (by omega) hbase
  exact ⟨v', w', h1, by rw [List.map_append, ← strCells_nums]; exact h2, h3, fun a b => h4.2 ⟨a, b⟩⟩
set_option maxRecDepth 100000 in
theorem bd_writeY (b base : Nat) (xs : List Int) (s : ByteArray) (w : World) (h : BdY w b base xs) (hn : xs.length + s.size < 140737488355329) (hbase : base ≤ w.heap.size) :
    Calls Try.prog 97 #[.pointer (some ⟨b, 0, none⟩), .string s] w fun e w' => e = .returned (.tuple #[.int .i64 s.size, .nilIface]) ∧ BdY w' b base (xs ++ nums s) ∧ Below b w w' ∧ base ≤ w'.heap.size := by
  obtain ⟨v, h, hz⟩ := h
  obtain ⟨p, hp, hb⟩ := h.blk
  have hlt := h.lt
  go_enter Try.func97, Try.ntmps97
  go_wp2_with fail
  refine (bd_check b p v hp w hb).mono ?_
  rintro e w1 ⟨rfl, hb1, hg1⟩
  have hown := far_own h.own hlt hg1
  have hs1 : base ≤ w1.heap.size := Nat.le_trans hbase hg1.size
  obtain ⟨v', w2, h1, h2, h3, h5⟩ := app_str_y w1 base v xs.length xs hown s hn hs1
  have h4 := ownBelow hown h3 (Nat.le_refl _) hs1
  obtain ⟨va, vl, vc, rfl⟩ := own_slice hown
  obtain ⟨va', vl', vc', rfl⟩ := own_slice h2
  have hb2 := (h4.block b hlt).trans hb1
  have hc1 : w1.cell? ⟨b, 1, none⟩ = some (.slice va vl vc) := by rw [cell_of_row w1 b 1 _ _ _ hb1]; rfl
  have hc2 : w2.cell? ⟨b, 1, none⟩ = some (.slice va vl vc) := by rw [cell_of_row w2 b 1 _ _ _ hb2]; rfl
  have hf2 : w2.frozen? ⟨b, 1, none⟩ = false := by simp [World.frozen?, hb2]
  have hb3 := heap_setCell_same w2 b 1 _ _ (.slice va' vl' vc') hb2
  have hgr : w2.grownBy (w2.setCell ⟨b, 1, none⟩ (.slice va' vl' vc')) (some b) := ⟨rfl, rfl, rfl, by simp [World.setCell], fun k _ hne => Below.heap_setCell w2 ⟨b, 1, none⟩ _ k (fun e => hne (by rw [e]))⟩
  have hown3 := far_own h2 hlt hgr
  have HA := Lib.hid h1
  have OUT : BdY (w2.setCell ⟨b, 1, none⟩ (.slice va' vl' vc')) b base (xs ++ nums s) ∧ Below b w (w2.setCell ⟨b, 1, none⟩ (.slice va' vl' vc')) ∧ base ≤ (w2.setCell ⟨b, 1, none⟩ (.slice va' vl' vc')).heap.size := by
    refine ⟨⟨_, ⟨⟨_, .inr rfl, hb3⟩, ?_, hlt⟩, fun e => ?_⟩, ?_, Nat.le_trans (Nat.le_trans hs1 h4.size) hgr.size⟩
    · rw [List.length_append, nums_length]
      exact hown3
    · rw [List.append_eq_nil_iff] at e
      exact h5 (hz e.1) (by rw [← nums_length, e.2]; rfl)
    · have hbA : Below b w w1 := ⟨hg1.os, hg1.tape, hg1.output, hg1.size, fun k hk => by
        rcases Nat.lt_or_ge k w.heap.size with h5 | h5
        · exact hg1.block k h5 (fun e => by injection e with e; omega)
        · omega⟩
      exact (hbA.trans (h4.mono (Nat.le_of_lt hlt))).setCell (p := ⟨b, 1, none⟩) (Nat.le_refl _) _
  have HO := Lib.hid OUT
  clear h1 h2 h3 h4 h5 hz hown hown3 hgr OUT h hb hb1 hb2 hb3
  go_wp2_with (at_builtin; refine wpList_append_run rfl _ _ _ _ rfl _ _ rfl rfl _ _ HA.out ?_)
  go_ret2
  exact ⟨rfl, HO.out⟩
theorem bd_stringY (b base : Nat) (xs : List Int) (w : World) (h : BdY w b base xs) (hbs : isBs xs) :
    Calls Try.prog 98 #[.pointer (some ⟨b, 0, none⟩)] w fun e w' => e = .returned (.string (strOfNums xs)) ∧ Below b w w' := by
  obtain ⟨v, h, hz⟩ := h
  cases xs with
  | nil =>
    obtain rfl := hz rfl
    refine (bd_string_nil b base w h).mono ?_
    rintro e w' ⟨rfl, h1, -⟩
    exact ⟨rfl, h1⟩
  | cons x r =>
    refine (bd_string b base v (x :: r) w h hbs (by simp)).mono ?_
    rintro e w' ⟨rfl, h1, -⟩
    exact ⟨rfl, h1⟩
/-- the texts of events, one behind the other. -/
def txsL (es : List Evt) : List Int := es.flatMap fun e => nums e.tx
theorem txsL_isBs (es : List Evt) : isBs (txsL es) := by
  intro x hx
  obtain ⟨e, -, he⟩ := List.mem_flatMap.1 hx
  exact nums_isBs e.tx x he
theorem txsL_snoc (es : List Evt) (k : Nat) (e : Evt) (h : es[k]? = some e) : txsL (es.take (k + 1)) = txsL (es.take k) ++ nums e.tx := by
  unfold txsL
  rw [List.take_add_one, List.flatMap_append, h]
  simp
theorem txsL_le (es : List Evt) (k : Nat) : (txsL (es.take k)).length ≤ (txsL es).length := by
  unfold txsL
  conv => rhs; rw [← List.take_append_drop k es, List.flatMap_append, List.length_append]
  omega
set_option maxRecDepth 100000 in
set_option maxHeartbeats 2000000 in
theorem events_texts (B : Nat) (es : List Evt) (v : Value) (w : World) (hr : EvsR B w v es) (hB : B ≤ w.heap.size) (hn : es.length ≤ 1000000) (hz : (txsL es).length < 140737488355329) :
    Calls Try.prog 65 #[v] w fun r w' => r = .returned (.string (strOfNums (txsL es))) ∧ Below w.heap.size w w' := by
  have hr0 := hr
  obtain ⟨avs, ⟨a, cap, rfl, -⟩, -⟩ := hr0
  obtain ⟨n, hnn⟩ : ∃ n, es.length = n := ⟨_, rfl⟩
  have HN := Lib.hid hnn
  rw [hnn] at hn hr ⊢
  have q0 := BdY.new w
  have hb0 := (Below.refl w.heap.size w).alloc (Nat.le_refl _) (.cells #[.pointer none, .slice none 0 0] 114)
  have hs0 : w.heap.size + 1 ≤ (w.alloc (.cells #[.pointer none, .slice none 0 0] 114)).heap.size := by simp
  obtain ⟨b, hb⟩ : ∃ b, w.heap.size = b := ⟨_, rfl⟩
  rw [hb] at q0 hb0 hs0 hB ⊢
  have HBB := Lib.hid hb
  go_enter Try.func65, Try.ntmps65
  go_wp2_with fail
  generalize w.alloc (.cells #[.pointer none, .slice none 0 0] 114) = w1 at q0 hb0 hs0 ⊢
  clear hnn hb
  go_loopw [8] (fun i wr => ∃ k : Nat, i = .int .i64 k ∧ k ≤ n ∧ BdY wr b (b + 1) (txsL (es.take k)) ∧ Below b w wr ∧ b + 1 ≤ wr.heap.size) (fun i _ => n - (intOf i).toNat)
  case atStart => exact ⟨0, rfl, by omega, q0, hb0, hs0⟩
  case round =>
    obtain ⟨k, rfl, hk, q, hbl, hsz⟩ := hrel
    by_cases hlt : k < n
    · obtain ⟨x, hx⟩ : ∃ x, es[k]? = some x := ⟨_, List.getElem?_eq_getElem (by rw [HN.out]; exact hlt)⟩
      obtain ⟨bb, off, cap', av, hv, hbB, c0, c1, c2, c3, c4, hav⟩ := hr.get hbl hB k x hx
      rw [HN.out] at hv
      cases hv
      have hd := decide_eq_true (show (k : Int) < (n : Int) by omega)
      have hsn := txsL_snoc es k x hx
      have hle := txsL_le es (k + 1)
      rw [hsn, List.length_append, nums_length] at hle
      obtain ⟨ek, nm, ats, tx⟩ := x
      simp only at c0 c1 c2 c3 c4 hav hsn hle
      obtain ⟨aa, ac, rfl, -⟩ := hav
      have hba := (Below.refl wr.heap.size wr).alloc (Nat.le_refl _) (.cells #[.int .i8 ek, .string nm.1, .string nm.2, .slice aa ats.length ac, .string tx] 30)
      have E1 := BlkAt.new wr #[.int .i8 ek, .string nm.1, .string nm.2, .slice aa ats.length ac, .string tx] 30
      have c5 : _ = some (Value.string tx) := E1.cell 4 rfl
      have HW := Lib.hid (bd_writeY b (b + 1) _ tx _ (q.below hba) (by omega) (Nat.le_trans hsz hba.size))
      clear hx q E1
      go_wp2_with fail
      refine (HW.out).mono ?_
      rintro r w2 ⟨rfl, h1, h2, h3⟩
      go_wp2_with fail
      refine ⟨⟨k + 1, rfl, by omega, by rw [hsn]; exact h1, (hbl.trans (hba.mono (by omega))).trans h2, h3⟩, ?_⟩
      simp [intOf]
      omega
    · have hd := decide_eq_false (show ¬ (k : Int) < (n : Int) by omega)
      have hkk : txsL (es.take k) = txsL es := by rw [List.take_of_length_le (by rw [HN.out]; omega)]
      rw [hkk] at q
      have HS := Lib.hid (bd_stringY b (b + 1) _ _ q (txsL_isBs es))
      clear q hkk
      go_wp2_with fail
      refine (HS.out).mono ?_
      rintro r w2 ⟨rfl, h1⟩
      go_wp2_with fail
      go_ret
      exact ⟨rfl, hbl.trans h1⟩
end Go.Proofs.Yteefopeclfojiaa
