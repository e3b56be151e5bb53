/-
  Parts DeQ DeA DeB DeC DeE Mx DeF of this seat's texts, in one file: contracts of functions that the law reaches, and the plain laws behind them. No condition.
-/
import Derived.Test.YthahfoliblgegaaGreatDoorG9
import Derived.Test.YthahfoliblgegaaGreatDoorG6
import Derived.Test.YthahfoliblgegaaGreatDoorG1
import Derived.Test.YthahfoliblgegaaGreatDoorLib
import Derived.RangeFuncNested
/- 
  Layer 7 in plain terms: what stands inside a declaration; all its parts; what stands behind makes no difference; parts put together are told; never two signs.
 -/
namespace Go.Proofs.YthahfoliblgegaaGreatDoor
open Go.Lib
/-- where "?>" first stands. -/
def endP : List Int → Option Nat
  | [] => none
  | a :: t => if a = 63 ∧ t.head? = some 62 then some 0 else (endP t).map (· + 1)
theorem endP_lt : ∀ (l : List Int) (n : Nat), endP l = some n → n + 1 < l.length
  | [], n, h => by cases h
  | a :: t, n, h => by
    rw [endP] at h
    split at h
    · rename_i hc
      cases h
      cases t with
      | nil => simp at hc
      | cons b u => simp
    · cases e : endP t with
      | none => rw [e] at h; cases h
      | some m =>
        rw [e] at h
        cases h
        have := endP_lt t m e
        simp only [List.length_cons]; omega
theorem endP_app : ∀ (l m : List Int) (n : Nat), endP l = some n → endP (l ++ m) = some n
  | [], m, n, h => by cases h
  | a :: t, m, n, h => by
    rw [List.cons_append, endP]
    rw [endP] at h
    split at h
    · rename_i hc
      cases h
      rw [if_pos]
      refine ⟨hc.1, ?_⟩
      cases t with
      | nil => simp at hc
      | cons b u => exact hc.2
    · rename_i hc
      cases e : endP t with
      | none => rw [e] at h; cases h
      | some k =>
        rw [e] at h
        cases h
        have hl := endP_lt t k e
        rw [if_neg, endP_app t m k e]
        · rfl
        · rintro ⟨h1, h2⟩
          apply hc
          refine ⟨h1, ?_⟩
          cases t with
          | nil => simp at hl
          | cons b u => exact h2
theorem endP_found : ∀ (l m : List Int), 63 ∉ l → endP (l ++ 63 :: 62 :: m) = some l.length
  | [], m, _ => by simp [endP]
  | a :: t, m, h => by
    rw [List.mem_cons, not_or] at h
    rw [List.cons_append, endP, if_neg (fun e => h.1 e.1.symm), endP_found t m h.2]
    rfl
/-- a place as a number. -/
def posI (o : Option Nat) : Int := match o with
  | none => -1
  | some i => (i : Int)
theorem posI_succ (o : Option Nat) : (if posI o = -1 then -1 else posI o + 1) = posI (o.map (· + 1)) := by
  cases o with
  | none => rfl
  | some i => show (if (i : Int) = -1 then _ else _) = _; rw [if_neg (by omega)]; rfl
theorem idx_one (q : UInt8) : ∀ l : List UInt8, Lib.index l [q] = posI (posN q.toNat (numsL l))
  | [] => rfl
  | c :: t => by
    by_cases hc : c = q
    · subst hc
      rw [index_pre (c :: t) [c] (by simp [List.isPrefixOf])]
      simp [numsL, posN, posI]
    · have hn : ¬ ((c.toNat : Int) = (q.toNat : Int)) := fun e => hc (UInt8.toNat_inj.1 (by omega))
      rw [index_cons c t [q] (by simp [List.isPrefixOf]; exact fun e => hc e.symm), idx_one q t, posI_succ]
      show _ = posI (posN _ ((c.toNat : Int) :: numsL t))
      rw [posN, if_neg hn]
theorem numsL_head (t : List UInt8) (n : Nat) (hn : n < 256) : (numsL t).head? = some (n : Int) ↔ t.head? = some (UInt8.ofNat n) := by
  cases t with
  | nil => simp [numsL]
  | cons c t =>
    show some (c.toNat : Int) = some (n : Int) ↔ _
    rw [List.head?_cons, Option.some_inj, Option.some_inj]
    exact u8_eq c n hn
theorem idx_end : ∀ l : List UInt8, Lib.index l [63, 62] = posI (endP (numsL l))
  | [] => rfl
  | c :: t => by
    have hh := numsL_head t 62 (by decide)
    have hq := u8_eq c 63 (by decide)
    by_cases hc : c = 63 ∧ t.head? = some 62
    · have hp : ([63, 62] : List UInt8).isPrefixOf (c :: t) = true := by
        obtain ⟨rfl, h2⟩ := hc
        cases t with
        | nil => simp at h2
        | cons d u => simp at h2; subst h2; simp [List.isPrefixOf]
      rw [index_pre (c :: t) _ hp]
      show _ = posI (endP ((c.toNat : Int) :: numsL t))
      rw [endP, if_pos ⟨hq.2 hc.1, hh.2 hc.2⟩]
      rfl
    · have hp : ([63, 62] : List UInt8).isPrefixOf (c :: t) = false := by
        cases e : ([63, 62] : List UInt8).isPrefixOf (c :: t) with
        | false => rfl
        | true =>
          exfalso
          apply hc
          cases t with
          | nil => simp [List.isPrefixOf] at e
          | cons d u => simp [List.isPrefixOf] at e; exact ⟨e.1.symm, by rw [← e.2]; rfl⟩
      rw [index_cons c t _ hp, idx_end t, posI_succ]
      show _ = posI (endP ((c.toNat : Int) :: numsL t))
      rw [endP, if_neg (fun h => hc ⟨hq.1 h.1, hh.1 h.2⟩)]
def cutO (l : List UInt8) (n : Nat) : Option Nat → List UInt8 × List UInt8 × Bool
  | none => (l, [], false)
  | some i => (l.take i, l.drop (i + n), true)
theorem cut_pos (l sub : List UInt8) (o : Option Nat) (h : Lib.index l sub = posI o) : Lib.cut l sub = cutO l sub.length o := by
  unfold Lib.cut
  rw [h]
  cases o with
  | none => rfl
  | some i => simp [posI, cutO]
theorem numsL_take (l : List UInt8) (n : Nat) : numsL (l.take n) = (numsL l).take n := by unfold numsL; rw [List.map_take]
theorem numsL_drop (l : List UInt8) (n : Nat) : numsL (l.drop n) = (numsL l).drop n := by unfold numsL; rw [List.map_drop]
theorem pre_nums : ∀ (p l : List UInt8), p.isPrefixOf l = (numsL p).isPrefixOf (numsL l)
  | [], l => by simp [numsL, List.isPrefixOf]
  | _ :: _, [] => by simp [numsL, List.isPrefixOf]
  | a :: p, c :: l => by
    show (a == c && p.isPrefixOf l) = (((a.toNat : Int) == (c.toNat : Int)) && (numsL p).isPrefixOf (numsL l))
    rw [pre_nums p l]
    congr 1
    by_cases h : a = c
    · subst h; simp
    · have hn : ¬ ((a.toNat : Int) = (c.toNat : Int)) := fun e => h (UInt8.toNat_inj.1 (by omega))
      rw [beq_eq_false_iff_ne.2 h, beq_eq_false_iff_ne.2 hn]
/-- the mark: the encoding, its length. -/
def markD (l : List Int) : Option (Int × Nat) :=
  if [239, 187, 191].isPrefixOf l = true then some (0, 3) else if [255, 254].isPrefixOf l = true then some (1, 2) else if [254, 255].isPrefixOf l = true then some (2, 2) else none
/-- the shape: the encoding. -/
def shapeD (l : List Int) : Option Int :=
  if [60, 0, 63, 0].isPrefixOf l = true then some 1 else if [0, 60, 0, 63].isPrefixOf l = true then some 2 else none
/-- what stands inside a declaration, of a text that is cut. -/
def insB (b : List Int) : Option (List Int) :=
  if [60, 63, 120, 109, 108].isPrefixOf b = true ∧ (b.drop 5).head?.map whN = some true then (endP (b.drop 5)).map ((b.drop 5).take ·) else none
def partsB (b : List Int) : List (List Int × List Int) := match insB b with
  | none => []
  | some s => parD (s.length + 1) s
def partsD (l : List Int) : List (List Int × List Int) := partsB (l.take 200)
/-- the label: the first part that is so named. -/
def scanD : List (List Int × List Int) → Option (List Int)
  | [] => none
  | p :: r => if p.1 = [101, 110, 99, 111, 100, 105, 110, 103] then some p.2 else scanD r
theorem partsD_front (l : List Int) : partsD (l.take 200) = partsD l := by unfold partsD; rw [List.take_take, Nat.min_self]
theorem insB_app (b m s : List Int) (h : insB b = some s) : insB (b ++ m) = some s := by
  unfold insB at h
  split at h
  · rename_i hc
    cases e : endP (b.drop 5) with
    | none => rw [e] at h; cases h
    | some n =>
      rw [e] at h
      cases h
      have hl := endP_lt _ _ e
      have h5 : 5 ≤ b.length := by rw [List.length_drop] at hl; omega
      have hd : (b ++ m).drop 5 = b.drop 5 ++ m := by rw [List.drop_append_of_le_length h5]
      have hp : [60, 63, 120, 109, 108].isPrefixOf (b ++ m) = true := List.isPrefixOf_iff_prefix.2 ((List.isPrefixOf_iff_prefix.1 hc.1).trans (List.prefix_append _ _))
      have hh : (b.drop 5 ++ m).head?.map whN = some true := by
        cases e2 : b.drop 5 with
        | nil => rw [e2] at hl; simp at hl
        | cons c t => have := hc.2; rw [e2] at this; exact this
      unfold insB
      rw [hd, if_pos ⟨hp, hh⟩, endP_app _ m n e]
      show some ((b.drop 5 ++ m).take n) = _
      rw [List.take_append_of_le_length (by omega)]
  · cases h
theorem partsD_more (l m : List Int) (h : partsD l ≠ []) : partsD (l ++ m) = partsD l := by
  by_cases hl : 200 ≤ l.length
  · unfold partsD
    rw [List.take_append_of_le_length hl]
  · have h1 : l.take 200 = l := List.take_of_length_le (by omega)
    have h2 : (l ++ m).take 200 = l ++ m.take (200 - l.length) := by rw [List.take_append, h1]
    unfold partsD at h ⊢
    rw [h2, h1]
    rw [h1] at h
    unfold partsB at h ⊢
    cases e : insB l with
    | none => rw [e] at h; exact absurd rfl h
    | some s => rw [insB_app l _ s e]
theorem scanD_nil {l : List (List Int × List Int)} (h : l = []) : scanD l = none := by rw [h]; rfl
/-- text that is made of parts. -/
def madeD : List (List Int × List Int) → List Int
  | [] => []
  | p :: r => 32 :: (p.1 ++ ([61, 34] ++ (p.2 ++ (34 :: madeD r))))
def goodD (p : List Int × List Int) : Prop := p.1 ≠ [] ∧ (∀ c ∈ p.1, smN c = true) ∧ ∀ c ∈ p.2, c ≠ 34 ∧ c ≠ 63
theorem sm_not_wh {c : Int} (h : smN c = true) : whN c = false := by
  unfold smN at h
  have := of_decide_eq_true h
  unfold whN
  rw [Bool.eq_false_iff]
  simp
  omega
theorem posN_at (q : Int) : ∀ (v r : List Int), (∀ c ∈ v, c ≠ q) → posN q (v ++ q :: r) = some v.length
  | [], r, _ => by simp [posN]
  | c :: v, r, h => by
    rw [List.cons_append, posN, if_neg (h c (List.mem_cons_self ..)), posN_at q v r fun x hx => h x (List.mem_cons_of_mem _ hx)]
    rfl
theorem takeWhile_app (P : Int → Bool) : ∀ (n r : List Int), (∀ c ∈ n, P c = true) → (r.head?.map P ≠ some true) → (n ++ r).takeWhile P = n ∧ (n ++ r).dropWhile P = r
  | [], r, _, h => by
    cases r with
    | nil => simp
    | cons c t =>
      have : P c = false := by simpa using h
      simp [this]
  | c :: n, r, hn, h => by
    obtain ⟨h1, h2⟩ := takeWhile_app P n r (fun x hx => hn x (List.mem_cons_of_mem _ hx)) h
    have hc := hn c (List.mem_cons_self ..)
    rw [List.cons_append, List.takeWhile_cons, List.dropWhile_cons, if_pos hc, if_pos hc, h1, h2]
    exact ⟨rfl, rfl⟩
theorem partD_made (p : List Int × List Int) (r : List Int) (hg : goodD p) : partD (32 :: (p.1 ++ ([61, 34] ++ (p.2 ++ (34 :: r))))) = some (p, r) := by
  obtain ⟨n, v⟩ := p
  obtain ⟨hn, hs, hv⟩ := hg
  dsimp only at hn hs hv ⊢
  cases n with
  | nil => exact absurd rfl hn
  | cons c n =>
    have hw : whN c = false := sm_not_wh (hs c (List.mem_cons_self ..))
    obtain ⟨a1, a2⟩ := takeWhile_app whN [32] ((c :: n) ++ ([61, 34] ++ (v ++ (34 :: r)))) (by simp [whN]) (by simp [hw])
    obtain ⟨b1, b2⟩ := takeWhile_app smN (c :: n) ([61, 34] ++ (v ++ (34 :: r))) hs (by simp [smN])
    obtain ⟨_, c2⟩ := takeWhile_app whN [] ([61, 34] ++ (v ++ (34 :: r))) (by simp) (by simp [whN])
    obtain ⟨_, d2⟩ := takeWhile_app whN [] (34 :: (v ++ (34 :: r))) (by simp) (by simp [whN])
    rw [List.nil_append] at c2 d2
    rw [show (32 : Int) :: (c :: n ++ ([61, 34] ++ (v ++ (34 :: r)))) = [32] ++ ((c :: n) ++ ([61, 34] ++ (v ++ (34 :: r)))) from rfl]
    unfold partD
    rw [a1, a2, b1, b2, c2, if_neg (by simp), if_neg (by simp)]
    show (valD ((34 :: (v ++ (34 :: r))).dropWhile whN)).map _ = _
    rw [d2]
    show ((posN 34 (v ++ 34 :: r)).map _).map _ = _
    rw [posN_at 34 v r fun x hx => (hv x hx).1]
    simp
theorem parD_made : ∀ (ps : List (List Int × List Int)) (f : Nat), (∀ p ∈ ps, goodD p) → (madeD ps).length < f → parD f (madeD ps) = ps
  | _, 0, _, h => absurd h (by omega)
  | [], f + 1, _, _ => by rw [madeD, parD]; rfl
  | p :: r, f + 1, hg, hl => by
    rw [madeD] at hl ⊢
    rw [parD, partD_made p (madeD r) (hg p (List.mem_cons_self ..))]
    show p :: parD f (madeD r) = _
    rw [parD_made r f (fun q hq => hg q (List.mem_cons_of_mem _ hq)) (by simp only [List.length_cons, List.length_append, List.length_nil] at hl; omega)]
theorem madeD_63 : ∀ (ps : List (List Int × List Int)), (∀ p ∈ ps, goodD p) → 63 ∉ madeD ps
  | [], _ => by simp [madeD]
  | p :: r, hg => by
    have ih := madeD_63 r fun q hq => hg q (List.mem_cons_of_mem _ hq)
    obtain ⟨_, h2, h3⟩ := hg p (List.mem_cons_self ..)
    rw [madeD]
    simp only [List.mem_cons, List.mem_append, not_or]
    refine ⟨by decide, fun h => ?_, ⟨by decide, by decide, by simp⟩, fun h => (h3 _ h).2 rfl, by decide, ih⟩
    have := h2 _ h
    simp [smN] at this
/-- what stands between "<?xml" and "?>" in a text that is made. -/
def bodyD (ps : List (List Int × List Int)) : List Int := if ps = [] then [32] else madeD ps
theorem partsD_made (ps : List (List Int × List Int)) (m : List Int) (hg : ∀ p ∈ ps, goodD p) (hl : (bodyD ps).length ≤ 190) : partsD ([60, 63, 120, 109, 108] ++ (bodyD ps ++ 63 :: 62 :: m)) = ps := by
  have h63 : 63 ∉ bodyD ps := by
    unfold bodyD
    split
    · decide
    · exact madeD_63 ps hg
  have hhead : ∃ t, bodyD ps = 32 :: t := by
    unfold bodyD
    split
    · exact ⟨[], rfl⟩
    · cases ps with
      | nil => rename_i h; exact absurd rfl h
      | cons p r => exact ⟨_, rfl⟩
  have hpar : parD ((bodyD ps).length + 1) (bodyD ps) = ps := by
    unfold bodyD
    split
    · rename_i h; rw [h]; rfl
    · exact parD_made ps _ hg (by omega)
  obtain ⟨B, hB⟩ : ∃ B, bodyD ps = B := ⟨_, rfl⟩
  rw [hB] at hl h63 hhead hpar ⊢
  have ht : ([60, 63, 120, 109, 108] ++ (B ++ 63 :: 62 :: m)).take 200 = [60, 63, 120, 109, 108] ++ (B ++ 63 :: 62 :: m.take (193 - B.length)) := by
    rw [List.take_append, List.take_of_length_le (by simp), List.take_append, List.take_of_length_le (by simp; omega)]
    have e : 200 - ([60, 63, 120, 109, 108] : List Int).length - B.length = (193 - B.length) + 2 := by simp; omega
    rw [e]
    rfl
  unfold partsD
  rw [ht]
  have hi : insB ([60, 63, 120, 109, 108] ++ (B ++ 63 :: 62 :: m.take (193 - B.length))) = some B := by
    unfold insB
    have hd : ([60, 63, 120, 109, 108] ++ (B ++ 63 :: 62 :: m.take (193 - B.length))).drop 5 = B ++ 63 :: 62 :: m.take (193 - B.length) := rfl
    rw [hd, if_pos, endP_found B _ h63]
    · simp
    · refine ⟨List.isPrefixOf_iff_prefix.2 (List.prefix_append _ _), ?_⟩
      obtain ⟨t, rfl⟩ := hhead
      rfl
  unfold partsB
  rw [hi]
  exact hpar
theorem insB_xml {b s : List Int} (h : insB b = some s) : ∃ t, b = 60 :: 63 :: t := by
  unfold insB at h
  split at h
  · rename_i hc
    obtain ⟨t, ht⟩ := List.isPrefixOf_iff_prefix.1 hc.1
    exact ⟨_, ht.symm⟩
  · cases h
theorem parts_xml {l : List Int} (h : partsD l ≠ []) : ∃ t, l = 60 :: 63 :: t := by
  unfold partsD partsB at h
  cases e : insB (l.take 200) with
  | none => rw [e] at h; exact absurd rfl h
  | some s =>
    obtain ⟨t, ht⟩ := insB_xml e
    match l, ht with
    | [], ht => simp at ht
    | [a], ht => simp at ht
    | a :: b :: u, ht =>
      rw [show (200 : Nat) = 198 + 1 + 1 from rfl, List.take_succ_cons, List.take_succ_cons] at ht
      injection ht with e1 e2
      injection e2 with e2 e3
      exact ⟨u, by rw [e1, e2]⟩
theorem apart_mark {l : List Int} {p : Int × Nat} (h : markD l = some p) : shapeD l = none ∧ partsD l = [] := by
  have hm : ∃ c t, l = c :: t ∧ (c = 239 ∨ c = 255 ∨ c = 254) := by
    unfold markD at h
    split at h
    · rename_i hc; obtain ⟨t, ht⟩ := List.isPrefixOf_iff_prefix.1 hc; exact ⟨_, _, ht.symm, .inl rfl⟩
    · split at h
      · rename_i hc; obtain ⟨t, ht⟩ := List.isPrefixOf_iff_prefix.1 hc; exact ⟨_, _, ht.symm, .inr (.inl rfl)⟩
      · split at h
        · rename_i hc; obtain ⟨t, ht⟩ := List.isPrefixOf_iff_prefix.1 hc; exact ⟨_, _, ht.symm, .inr (.inr rfl)⟩
        · cases h
  obtain ⟨c, t, rfl, hc⟩ := hm
  constructor
  · unfold shapeD
    rw [if_neg, if_neg]
    · intro h; obtain ⟨u, hu⟩ := List.isPrefixOf_iff_prefix.1 h; injection hu with e; omega
    · intro h; obtain ⟨u, hu⟩ := List.isPrefixOf_iff_prefix.1 h; injection hu with e; omega
  · refine Classical.byContradiction fun hn => ?_
    obtain ⟨u, hu⟩ := parts_xml hn
    injection hu with e
    omega
theorem apart_shape {l : List Int} {p : Int} (h : shapeD l = some p) : partsD l = [] := by
  refine Classical.byContradiction fun hn => ?_
  obtain ⟨u, rfl⟩ := parts_xml hn
  unfold shapeD at h
  rw [if_neg, if_neg] at h
  · cases h
  · intro h; obtain ⟨v, hv⟩ := List.isPrefixOf_iff_prefix.1 h; injection hv with e; omega
  · intro h; obtain ⟨v, hv⟩ := List.isPrefixOf_iff_prefix.1 h; injection hv with e e2; injection e2 with e3; omega
theorem markD_len {l : List Int} {p : Int × Nat} (h : markD l = some p) : 0 < p.2 ∧ p.2 ≤ l.length := by
  unfold markD at h
  split at h
  · rename_i hc; have := (List.isPrefixOf_iff_prefix.1 hc).length_le; cases h; exact ⟨by decide, this⟩
  · split at h
    · rename_i hc; have := (List.isPrefixOf_iff_prefix.1 hc).length_le; cases h; exact ⟨by decide, this⟩
    · split at h
      · rename_i hc; have := (List.isPrefixOf_iff_prefix.1 hc).length_le; cases h; exact ⟨by decide, this⟩
      · cases h
end Go.Proofs.YthahfoliblgegaaGreatDoor
/- 
  The small walks of layer 7: white, small, the document's white.
 -/
namespace Go.Proofs.YthahfoliblgegaaGreatDoor
open Go.RowKit
theorem declare_white (c : Int) (w : World) : Calls Tryz.prog 100 #[.int .u8 c] w fun e w' => e = .returned (.bool (whN c)) ∧ w = w' := by
  have HE := Lib.hid (show whN c = (c == 32 || c == 9 || c == 10 || c == 13) from rfl)
  cases q1 : c == 32 with
  | true =>
    go_enter Tryz.func100, Tryz.ntmps100
    go_wp2
    go_ret
    exact ⟨by rw [HE.out, q1]; rfl, rfl⟩
  | false =>
    cases q2 : c == 9 with
    | true =>
      go_enter Tryz.func100, Tryz.ntmps100
      go_wp2
      go_ret
      exact ⟨by rw [HE.out, q1, q2]; rfl, rfl⟩
    | false =>
      cases q3 : c == 10 with
      | true =>
        go_enter Tryz.func100, Tryz.ntmps100
        go_wp2
        go_ret
        exact ⟨by rw [HE.out, q1, q2, q3]; rfl, rfl⟩
      | false =>
        cases q4 : c == 13 with
        | true =>
          go_enter Tryz.func100, Tryz.ntmps100
          go_wp2
          go_ret
          exact ⟨by rw [HE.out, q1, q2, q3, q4]; rfl, rfl⟩
        | false =>
          go_enter Tryz.func100, Tryz.ntmps100
          go_wp2
          go_ret
          exact ⟨by rw [HE.out, q1, q2, q3, q4]; rfl, rfl⟩
theorem declare_small (c : Int) (w : World) : Calls Tryz.prog 134 #[.int .u8 c] w fun e w' => e = .returned (.bool (smN c)) ∧ w = w' := by
  by_cases h1 : 97 ≤ c
  · by_cases h2 : c ≤ 122
    · have HE := Lib.hid (show smN c = true by unfold smN; exact decide_eq_true ⟨h1, h2⟩)
      go_enter Tryz.func134, Tryz.ntmps134
      go_wp2
      go_ret
      exact ⟨by rw [HE.out]; rfl, rfl⟩
    · have HE := Lib.hid (show smN c = false by unfold smN; exact decide_eq_false (fun h => h2 h.2))
      go_enter Tryz.func134, Tryz.ntmps134
      go_wp2
      go_ret
      exact ⟨by rw [HE.out]; rfl, rfl⟩
  · have HE := Lib.hid (show smN c = false by unfold smN; exact decide_eq_false (fun h => h1 h.1))
    go_enter Tryz.func134, Tryz.ntmps134
    go_wp2
    go_ret
    exact ⟨by rw [HE.out]; rfl, rfl⟩
end Go.Proofs.YthahfoliblgegaaGreatDoor
/- 
  The walk of layer 7's (*cutter).while, at white and at small.
 -/
namespace Go.Proofs.YthahfoliblgegaaGreatDoor
open Go.RowKit
theorem nums_extD (s : ByteArray) (a b : Nat) : nums (s.extract a b) = ((nums s).drop a).take (b - a) := by
  unfold nums
  rw [ByteArray.data_extract, Array.toList_extract, List.map_take, List.map_drop]
theorem ext_strD (s : ByteArray) (a b : Nat) : s.extract a b = strOfNums (((nums s).drop a).take (b - a)) := by rw [← nums_extD, strOfNums_nums]
theorem tw_stop (P : Int → Bool) : ∀ (l : List Int) (k : Nat), (∀ x ∈ l.take k, P x = true) → (l.length ≤ k ∨ ∃ c, l[k]? = some c ∧ P c = false) → l.takeWhile P = l.take k ∧ l.dropWhile P = l.drop k
  | [], k, _, _ => by simp
  | c :: t, 0, _, h => by
    rcases h with h | ⟨x, hx, hp⟩
    · simp at h
    · have : x = c := by simpa using hx.symm
      subst this
      simp [hp]
  | c :: t, k + 1, ha, h => by
    have hc : P c = true := ha c (by simp)
    obtain ⟨h1, h2⟩ := tw_stop P t k (fun x hx => ha x (by simp [hx])) (by simpa using h)
    simp [hc, h1, h2]
set_option maxHeartbeats 1000000 in
theorem while_white (b : Nat) (s : ByteArray) (w : World) (hs : s.size ≤ 1099511627776) (hc : w.cell? ⟨b, 0, none⟩ = some (.string s)) (hf : w.frozen? ⟨b, 0, none⟩ = false) :
    Calls Tryz.prog 133 #[.pointer (some ⟨b, 0, none⟩), .func (.func 100) #[] #[]] w fun e w' => e = .returned (.string (strOfNums ((nums s).takeWhile whN))) ∧ w' = w.setCell ⟨b, 0, none⟩ (.string (strOfNums ((nums s).dropWhile whN))) := by
  go_enter Tryz.func133, Tryz.ntmps133
  go_wp2
  go_loop [5] (fun i => ∃ k : Nat, i = .int .i64 k ∧ k ≤ s.size ∧ ∀ x ∈ (nums s).take k, whN x = true) (fun i => s.size - (intOf i).toNat)
  case atStart => exact ⟨0, rfl, by omega, by simp⟩
  case round =>
    obtain ⟨k, rfl, hk, hall⟩ := hrel
    by_cases hlt : k < s.size
    · obtain ⟨c, hcc⟩ : ∃ c : Int, (s[k].toNat : Int) = c := ⟨_, rfl⟩
      have hix := index_str s k hlt c k hcc rfl
      have hat : (nums s)[k]? = some c := by rw [List.getElem?_eq_getElem (by rw [nums_length]; exact hlt), nums_at s k hlt, hcc]
      cases hp : whN c with
      | true =>
        have HP := Lib.hid hp
        have hnx : ∀ x ∈ (nums s).take (k + 1), whN x = true := by
          intro x hx
          rw [List.take_add_one, hat] at hx
          simp only [Option.toList_some, List.mem_append, List.mem_singleton] at hx
          rcases hx with hx | rfl
          · exact hall x hx
          · exact hp
        clear hcc hp hat hall
        go_wp2_with fail
        refine (declare_white c _).mono ?_
        rw [HP.out]
        rintro e w' ⟨rfl, rfl⟩
        go_wp2
        exact ⟨⟨k + 1, by go_num, by omega, hnx⟩, by simp [intOf]; omega⟩
      | false =>
        have HP := Lib.hid hp
        obtain ⟨t1, t2⟩ := tw_stop whN (nums s) k hall (.inr ⟨c, hat, hp⟩)
        have E1 : s.extract 0 k = strOfNums ((nums s).takeWhile whN) := by rw [ext_strD, t1, List.drop_zero, Nat.sub_zero]
        have E2 : s.extract k s.size = strOfNums ((nums s).dropWhile whN) := by rw [ext_strD, t2, List.take_of_length_le (by rw [List.length_drop, nums_length]; omega)]
        have hkk : (k : Int) ≤ (s.size : Int) := by omega
        clear hcc hp hat hall t1 t2
        go_wp2_with fail
        refine (declare_white c _).mono ?_
        rw [HP.out]
        rintro e w' ⟨rfl, rfl⟩
        go_wp2
        go_ret
        exact ⟨rfl, rfl⟩
    · obtain ⟨t1, t2⟩ := tw_stop whN (nums s) k hall (.inl (by rw [nums_length]; omega))
      have E1 : s.extract 0 k = strOfNums ((nums s).takeWhile whN) := by rw [ext_strD, t1, List.drop_zero, Nat.sub_zero]
      have E2 : s.extract k s.size = strOfNums ((nums s).dropWhile whN) := by rw [ext_strD, t2, List.take_of_length_le (by rw [List.length_drop, nums_length]; omega)]
      have hkk : (k : Int) ≤ (s.size : Int) := by omega
      clear hall t1 t2
      go_wp2
      go_ret
      exact ⟨rfl, rfl⟩
set_option maxHeartbeats 1000000 in
theorem while_small (b : Nat) (s : ByteArray) (w : World) (hs : s.size ≤ 1099511627776) (hc : w.cell? ⟨b, 0, none⟩ = some (.string s)) (hf : w.frozen? ⟨b, 0, none⟩ = false) :
    Calls Tryz.prog 133 #[.pointer (some ⟨b, 0, none⟩), .func (.func 134) #[] #[]] w fun e w' => e = .returned (.string (strOfNums ((nums s).takeWhile smN))) ∧ w' = w.setCell ⟨b, 0, none⟩ (.string (strOfNums ((nums s).dropWhile smN))) := by
  go_enter Tryz.func133, Tryz.ntmps133
  go_wp2
  go_loop [5] (fun i => ∃ k : Nat, i = .int .i64 k ∧ k ≤ s.size ∧ ∀ x ∈ (nums s).take k, smN x = true) (fun i => s.size - (intOf i).toNat)
  case atStart => exact ⟨0, rfl, by omega, by simp⟩
  case round =>
    obtain ⟨k, rfl, hk, hall⟩ := hrel
    by_cases hlt : k < s.size
    · obtain ⟨c, hcc⟩ : ∃ c : Int, (s[k].toNat : Int) = c := ⟨_, rfl⟩
      have hix := index_str s k hlt c k hcc rfl
      have hat : (nums s)[k]? = some c := by rw [List.getElem?_eq_getElem (by rw [nums_length]; exact hlt), nums_at s k hlt, hcc]
      cases hp : smN c with
      | true =>
        have HP := Lib.hid hp
        have hnx : ∀ x ∈ (nums s).take (k + 1), smN x = true := by
          intro x hx
          rw [List.take_add_one, hat] at hx
          simp only [Option.toList_some, List.mem_append, List.mem_singleton] at hx
          rcases hx with hx | rfl
          · exact hall x hx
          · exact hp
        clear hcc hp hat hall
        go_wp2_with fail
        refine (declare_small c _).mono ?_
        rw [HP.out]
        rintro e w' ⟨rfl, rfl⟩
        go_wp2
        exact ⟨⟨k + 1, by go_num, by omega, hnx⟩, by simp [intOf]; omega⟩
      | false =>
        have HP := Lib.hid hp
        obtain ⟨t1, t2⟩ := tw_stop smN (nums s) k hall (.inr ⟨c, hat, hp⟩)
        have E1 : s.extract 0 k = strOfNums ((nums s).takeWhile smN) := by rw [ext_strD, t1, List.drop_zero, Nat.sub_zero]
        have E2 : s.extract k s.size = strOfNums ((nums s).dropWhile smN) := by rw [ext_strD, t2, List.take_of_length_le (by rw [List.length_drop, nums_length]; omega)]
        have hkk : (k : Int) ≤ (s.size : Int) := by omega
        clear hcc hp hat hall t1 t2
        go_wp2_with fail
        refine (declare_small c _).mono ?_
        rw [HP.out]
        rintro e w' ⟨rfl, rfl⟩
        go_wp2
        go_ret
        exact ⟨rfl, rfl⟩
    · obtain ⟨t1, t2⟩ := tw_stop smN (nums s) k hall (.inl (by rw [nums_length]; omega))
      have E1 : s.extract 0 k = strOfNums ((nums s).takeWhile smN) := by rw [ext_strD, t1, List.drop_zero, Nat.sub_zero]
      have E2 : s.extract k s.size = strOfNums ((nums s).dropWhile smN) := by rw [ext_strD, t2, List.take_of_length_le (by rw [List.length_drop, nums_length]; omega)]
      have hkk : (k : Int) ≤ (s.size : Int) := by omega
      clear hall t1 t2
      go_wp2
      go_ret
      exact ⟨rfl, rfl⟩
end Go.Proofs.YthahfoliblgegaaGreatDoor
/- 
  The document's white and blank, of layer 7.
 -/
namespace Go.Proofs.YthahfoliblgegaaGreatDoor
open Go.RowKit
theorem ref07_white (c : Int) (w : World) : Calls Tryz.prog 139 #[.int .u8 c] w fun e w' => e = .returned (.bool (whN c)) ∧ w = w' := by
  have HE := Lib.hid (show whN c = (c == 9 || (c == 10 || (c == 13 || c == 32))) by
    unfold whN
    cases c == 32 <;> cases c == 9 <;> cases c == 10 <;> cases c == 13 <;> rfl)
  cases q1 : c == 9 with
  | true =>
    go_enter Tryz.func139, Tryz.ntmps139
    go_wp2
    go_ret
    exact ⟨by rw [HE.out, q1]; rfl, rfl⟩
  | false =>
    cases q2 : c == 10 with
    | true =>
      go_enter Tryz.func139, Tryz.ntmps139
      go_wp2
      go_ret
      exact ⟨by rw [HE.out, q1, q2]; rfl, rfl⟩
    | false =>
      cases q3 : c == 13 with
      | true =>
        go_enter Tryz.func139, Tryz.ntmps139
        go_wp2
        go_ret
        exact ⟨by rw [HE.out, q1, q2, q3]; rfl, rfl⟩
      | false =>
        cases q4 : c == 32 with
        | true =>
          go_enter Tryz.func139, Tryz.ntmps139
          go_wp2
          go_ret
          exact ⟨by rw [HE.out, q1, q2, q3, q4]; rfl, rfl⟩
        | false =>
          go_enter Tryz.func139, Tryz.ntmps139
          go_wp2
          go_ret
          exact ⟨by rw [HE.out, q1, q2, q3, q4]; rfl, rfl⟩
theorem ref07_blank (s : ByteArray) (a : Nat) (w : World) (hs : s.size ≤ 1099511627776) (ha : a ≤ s.size) :
    Calls Tryz.prog 140 #[.string s, .int .i64 a] w fun e w' => e = .returned (.int .i64 ((a + (((nums s).drop a).takeWhile whN).length : Nat) : Int)) ∧ w = w' := by
  go_enter Tryz.func140, Tryz.ntmps140
  go_wp2
  go_loop [1] (fun i => ∃ k : Nat, i = .int .i64 k ∧ k ≤ s.size ∧ k + (((nums s).drop k).takeWhile whN).length = a + (((nums s).drop a).takeWhile whN).length) (fun i => s.size - (intOf i).toNat)
  case atStart => exact ⟨a, rfl, ha, rfl⟩
  case round =>
    obtain ⟨k, rfl, hk, hq⟩ := hrel
    by_cases hlt : k < s.size
    · obtain ⟨c, hcc⟩ : ∃ c : Int, (s[k].toNat : Int) = c := ⟨_, rfl⟩
      have hix := index_str s k hlt c k hcc rfl
      rw [nums_drop s k hlt, hcc] at hq
      cases hp : whN c with
      | true =>
        have HP := Lib.hid hp
        rw [List.takeWhile_cons, if_pos hp, List.length_cons] at hq
        have HQ := Lib.hid (show (k + 1) + (((nums s).drop (k + 1)).takeWhile whN).length = a + (((nums s).drop a).takeWhile whN).length by omega)
        clear hcc hp hq
        go_wp2_with fail
        refine (ref07_white c _).mono ?_
        rw [HP.out]
        rintro e w' ⟨rfl, rfl⟩
        go_wp2
        exact ⟨⟨k + 1, by go_num, by omega, HQ.out⟩, by simp [intOf]; omega⟩
      | false =>
        have HP := Lib.hid hp
        rw [List.takeWhile_cons, if_neg (by rw [hp]; decide), List.length_nil, Nat.add_zero] at hq
        have HQ := Lib.hid hq
        clear hcc hp hq
        go_wp2_with fail
        refine (ref07_white c _).mono ?_
        rw [HP.out]
        rintro e w' ⟨rfl, rfl⟩
        go_wp2
        go_ret
        exact ⟨ret_int (by have := HQ.out; omega), rfl⟩
    · rw [nums_drop_end s k (by omega), List.takeWhile_nil, List.length_nil, Nat.add_zero] at hq
      have HQ := Lib.hid hq
      clear hq
      go_wp2
      go_ret
      exact ⟨ret_int (by have := HQ.out; omega), rfl⟩
end Go.Proofs.YthahfoliblgegaaGreatDoor
/- 
  Layer 7: the walks of at, Mark, Cut, Shape.
 -/
namespace Go.Proofs.YthahfoliblgegaaGreatDoor
open Go.RowKit
def preB (b p : ByteArray) : Bool := Lib.hasPrefix b.data.toList p.data.toList
theorem preB_nums (b p : ByteArray) : preB b p = (nums p).isPrefixOf (nums b) := by
  unfold preB Lib.hasPrefix
  rw [pre_nums, numsL_of, numsL_of]
theorem cell_lt7 {w : World} {b i : Nat} {v : Value} (h : w.cell? ⟨b, i, none⟩ = some v) : b < w.heap.size := by
  simp only [World.cell?] at h
  by_cases hlt : b < w.heap.size
  · exact hlt
  · rw [Array.getElem?_eq_none (by omega)] at h; simp at h
/-- where the first sign that stands at the front stands in the row. -/
def idxS (b : ByteArray) : List (ByteArray × Int) → Option Nat
  | [] => none
  | s :: r => if preB b s.1 then some 0 else (idxS b r).map (· + 1)
theorem idxS_lt (b : ByteArray) : ∀ (S : List (ByteArray × Int)) (i : Nat), idxS b S = some i → i < S.length
  | [], i, h => by cases h
  | s :: r, i, h => by
    rw [idxS] at h
    split at h
    · cases h; simp
    · cases e : idxS b r with
      | none => rw [e] at h; cases h
      | some m =>
        rw [e] at h
        cases h
        have := idxS_lt b r m e
        simp only [List.length_cons]; omega
theorem declare_at1 (b p : ByteArray) (e : Int) (B : Nat) (w : World) (hc : w.cell? ⟨B, 0, none⟩ = some (.string b)) :
    Calls Tryz.prog 93 #[.agg #[.string p, .int .i8 e], .pointer (some ⟨B, 0, none⟩)] w fun e w' => e = .returned (.bool (preB b p)) ∧ Below w.heap.size w w' := by
  have hlt := cell_lt7 hc
  have hba := (Below.refl w.heap.size w).alloc (Nat.le_refl _) (.cells #[.string p, .int .i8 e] 72)
  have hc2 := (hba.cell (p := ⟨B, 0, none⟩) hlt).trans hc
  go_enter Tryz.func93, Tryz.ntmps93
  go_wp2_with fail
  refine (Tryz.strings_HasPrefix b p _).mono ?_
  rintro e w' ⟨rfl, rfl⟩
  go_wp2
  go_ret
  exact ⟨rfl, hba⟩
theorem declare_IndexFunc (b : ByteArray) (S : List (ByteArray × Int)) (g cap B : Nat) (w : World) (hc : w.cell? ⟨B, 0, none⟩ = some (.string b)) (hg : g < w.heap.size)
    (hS : ∀ k (h : k < S.length), w.cell? ⟨g, 0 + k * 2, none⟩ = some (.string S[k].1) ∧ w.cell? ⟨g, 0 + k * 2 + 1, none⟩ = some (.int .i8 S[k].2)) (hn : S.length ≤ 1000) :
    Calls Tryz.prog 92 #[.slice (some ⟨g, 0, none⟩) S.length cap, .func (.func 93) #[] #[.pointer (some ⟨B, 0, none⟩)]] w fun e w' => e = .returned (.int .i64 (posI (idxS b S))) ∧ Below w.heap.size w w' := by
  have hlt := cell_lt7 hc
  have hB := Below.refl w.heap.size w
  have HS := Lib.hid hS
  clear hS
  go_enter Tryz.func92, Tryz.ntmps92
  go_wp2_with fail
  go_loopw [8] (fun i wr => ∃ k : Nat, i = .int .i64 k ∧ k ≤ S.length ∧ Hid (idxS b S = (idxS b (S.drop k)).map (· + k)) ∧ Below w.heap.size w wr) (fun i _ => S.length - (intOf i).toNat)
  case atStart => exact ⟨0, rfl, by omega, Lib.hid (by rw [List.drop_zero]; simp), hB⟩
  case round =>
    obtain ⟨k, rfl, hk, HQ, hbw⟩ := hrel
    by_cases hlk : k < S.length
    · obtain ⟨s0, s1⟩ := HS.out k hlk
      obtain ⟨x, hx⟩ : ∃ x, S[k] = x := ⟨_, rfl⟩
      obtain ⟨p, e⟩ := x
      have hdr : S.drop k = (p, e) :: S.drop (k + 1) := by rw [← hx, List.drop_eq_getElem_cons hlk]
      rw [hx] at s0 s1
      have c0 := (hbw.cell (p := ⟨g, 0 + k * 2, none⟩) hg).trans s0
      have c1 := (hbw.cell (p := ⟨g, 0 + k * 2 + 1, none⟩) hg).trans s1
      have hcw := (hbw.cell (p := ⟨B, 0, none⟩) hlt).trans hc
      have H1 := Lib.hid (declare_at1 b p e B wr hcw)
      rw [Nat.zero_add] at c0 c1
      cases hp : preB b p with
      | true =>
        rw [hp] at H1
        have HR := Lib.hid (show posI (idxS b S) = (k : Int) by rw [HQ.out, hdr, idxS, if_pos hp]; simp [posI])
        clear hdr hx s0 s1 hp
        go_wp2_with fail
        refine H1.out.mono ?_
        rintro e w' ⟨rfl, hb1⟩
        go_wp2
        go_ret
        exact ⟨ret_int HR.out.symm, hbw.trans (hb1.mono hbw.size)⟩
      | false =>
        rw [hp] at H1
        have HR := Lib.hid (show idxS b S = (idxS b (S.drop (k + 1))).map (· + (k + 1)) by
          rw [HQ.out, hdr, idxS, hp, if_neg (by decide), Option.map_map]
          congr 1
          funext i
          simp only [Function.comp]
          omega)
        clear hdr hx s0 s1 hp
        go_wp2_with fail
        refine H1.out.mono ?_
        rintro e w' ⟨rfl, hb1⟩
        go_wp2
        exact ⟨⟨k + 1, by go_num, by omega, HR, hbw.trans (hb1.mono hbw.size)⟩, by simp [intOf]; omega⟩
    · have HR := Lib.hid (show posI (idxS b S) = -1 by rw [HQ.out, List.drop_eq_nil_of_le (by omega)]; rfl)
      go_wp2
      go_ret
      exact ⟨ret_int HR.out.symm, hbw⟩
/-- the sign that stands at the front. -/
def atS (b : ByteArray) : List (ByteArray × Int) → (ByteArray × Int) × Bool
  | [] => ((⟨#[]⟩, 0), false)
  | s :: r => if preB b s.1 then (s, true) else atS b r
theorem atS_none (b : ByteArray) : ∀ S, idxS b S = none → atS b S = ((⟨#[]⟩, 0), false)
  | [], _ => rfl
  | s :: r, h => by
    rw [idxS] at h
    split at h
    · cases h
    · rename_i hp
      rw [atS, if_neg hp]
      exact atS_none b r (by cases e : idxS b r with | none => rfl | some m => rw [e] at h; cases h)
theorem atS_some (b : ByteArray) : ∀ S i (h : idxS b S = some i), atS b S = (S[i]'(idxS_lt b S i h), true)
  | [], i, h => by cases h
  | s :: r, i, h => by
    have h0 := h
    rw [idxS] at h
    split at h
    · rename_i hp
      cases h
      rw [atS, if_pos hp]; rfl
    · rename_i hp
      cases e : idxS b r with
      | none => rw [e] at h; cases h
      | some m =>
        rw [e] at h
        cases h
        rw [atS, if_neg hp, atS_some b r m e]; rfl
set_option maxHeartbeats 1000000 in
theorem declare_at (b : ByteArray) (S : List (ByteArray × Int)) (g cap : Nat) (w : World) (hg : g < w.heap.size)
    (hS : ∀ k (h : k < S.length), w.cell? ⟨g, 0 + k * 2, none⟩ = some (.string S[k].1) ∧ w.cell? ⟨g, 0 + k * 2 + 1, none⟩ = some (.int .i8 S[k].2)) (hn : S.length ≤ 1000) :
    Calls Tryz.prog 49 #[.string b, .slice (some ⟨g, 0, none⟩) S.length cap] w fun e w' => e = .returned (.tuple #[.agg #[.string (atS b S).1.1, .int .i8 (atS b S).1.2], .bool (atS b S).2]) ∧ Below w.heap.size w w' := by
  have HS := Lib.hid hS
  have hb1 := (Below.refl w.heap.size w).alloc (Nat.le_refl _) (.cells #[.string b] 9)
  obtain ⟨w1, hw1⟩ : ∃ x, w.alloc (.cells #[.string b] 9) = x := ⟨_, rfl⟩
  have s1 : w1.heap.size = w.heap.size + 1 := by rw [← hw1, World.size_alloc]
  have k1 := BlkAt.new w #[.string b] 9
  rw [hw1] at hb1 k1
  have hb2 := hb1.alloc (by omega) (.cells #[.string ⟨#[]⟩, .int .i8 0] 72)
  have k2 := BlkAt.new w1 #[.string ⟨#[]⟩, .int .i8 0] 72
  have k1 := k1.alloc (.cells #[.string ⟨#[]⟩, .int .i8 0] 72)
  obtain ⟨w2, hw2⟩ : ∃ x, w1.alloc (.cells #[.string ⟨#[]⟩, .int .i8 0] 72) = x := ⟨_, rfl⟩
  have s2 : w2.heap.size = w.heap.size + 2 := by rw [← hw2, World.size_alloc, s1]
  rw [hw2] at hb2 k2 k1
  rw [s1] at k2
  have HI := Lib.hid (declare_IndexFunc b S g cap w.heap.size w2 (k1.cell 0 rfl) (by omega) (fun k h => ⟨(hb2.cell (p := ⟨g, 0 + k * 2, none⟩) hg).trans (hS k h).1, (hb2.cell (p := ⟨g, 0 + k * 2 + 1, none⟩) hg).trans (hS k h).2⟩) hn)
  clear hS
  go_enter Tryz.func49, Tryz.ntmps49
  go_wp2_with fail
  refine HI.out.mono ?_
  rintro e w3 ⟨rfl, hb3⟩
  have k3 := k2.below hb3 k2.lt
  have c0 := k3.cell 0 rfl
  have c1 := k3.cell 1 rfl
  have f0 := k3.free 0
  have f1 := k3.free 1
  have hb3 := hb2.trans (hb3.mono (by omega))
  cases hx : idxS b S with
  | none =>
    have HA := Lib.hid (atS_none b S hx)
    clear hx
    go_wp2_with fail
    refine bodyPost_ret (results_cell2 rfl _ _ _ _ _ rfl ((k3.set 0 _).set 1 _) Tryz.underlying72 rfl (by kernel_rfl)) rfl ?_
    exact ⟨by rw [HA.out]; rfl, (hb3.setCell (p := ⟨w.heap.size + 1, 0, none⟩) (by simp) _).setCell (p := ⟨w.heap.size + 1, 1, none⟩) (by simp) _⟩
  | some i =>
    have hil := idxS_lt b S i hx
    obtain ⟨q0, q1⟩ := HS.out i hil
    obtain ⟨p, hpp⟩ : ∃ p, S[i] = p := ⟨_, rfl⟩
    have HA := Lib.hid (show atS b S = (p, true) by rw [atS_some b S i hx, hpp])
    rw [hpp] at q0 q1
    obtain ⟨p, e⟩ := p
    have q0 := (hb3.cell (p := ⟨g, 0 + i * 2, none⟩) hg).trans q0
    have q1 := (hb3.cell (p := ⟨g, 0 + i * 2 + 1, none⟩) hg).trans q1
    rw [Nat.zero_add] at q0 q1
    clear hx hpp
    rw [show posI (some i) = (i : Int) from rfl]
    go_wp2_with fail
    refine bodyPost_ret (results_cell2 rfl _ _ _ _ _ rfl ((k3.set 0 _).set 1 _) Tryz.underlying72 rfl (by kernel_rfl)) rfl ?_
    exact ⟨by rw [HA.out]; rfl, (hb3.setCell (p := ⟨w.heap.size + 1, 0, none⟩) (by simp) _).setCell (p := ⟨w.heap.size + 1, 1, none⟩) (by simp) _⟩
def mkL : List (ByteArray × Int) := [(⟨#[239, 187, 191]⟩, 0), (⟨#[255, 254]⟩, 1), (⟨#[254, 255]⟩, 2)]
def shL : List (ByteArray × Int) := [(⟨#[60, 0, 63, 0]⟩, 1), (⟨#[0, 60, 0, 63]⟩, 2)]
/-- the mark, as it is told. -/
def mrkV (l : List Int) : Int × Nat × Bool := match markD l with
  | some p => (p.1, p.2, true)
  | none => (0, 0, false)
def shpV (l : List Int) : Int × Bool := match shapeD l with
  | some p => (p, true)
  | none => (0, false)
theorem atS_mark (b : ByteArray) : ((atS b mkL).1.2, (atS b mkL).1.1.size, (atS b mkL).2) = mrkV (nums b) := by
  have h1 : preB b ⟨#[239, 187, 191]⟩ = [239, 187, 191].isPrefixOf (nums b) := preB_nums b _
  have h2 : preB b ⟨#[255, 254]⟩ = [255, 254].isPrefixOf (nums b) := preB_nums b _
  have h3 : preB b ⟨#[254, 255]⟩ = [254, 255].isPrefixOf (nums b) := preB_nums b _
  unfold mkL mrkV markD
  rw [atS, atS, atS, atS]
  dsimp only
  rw [h1, h2, h3]
  cases [239, 187, 191].isPrefixOf (nums b) with
  | true => rfl
  | false =>
    cases [255, 254].isPrefixOf (nums b) with
    | true => rfl
    | false => cases [254, 255].isPrefixOf (nums b) <;> rfl
theorem atS_shape (b : ByteArray) : ((atS b shL).1.2, (atS b shL).2) = shpV (nums b) := by
  have h1 : preB b ⟨#[60, 0, 63, 0]⟩ = [60, 0, 63, 0].isPrefixOf (nums b) := preB_nums b _
  have h2 : preB b ⟨#[0, 60, 0, 63]⟩ = [0, 60, 0, 63].isPrefixOf (nums b) := preB_nums b _
  unfold shL shpV shapeD
  rw [atS, atS, atS]
  dsimp only
  rw [h1, h2]
  cases [60, 0, 63, 0].isPrefixOf (nums b) with
  | true => rfl
  | false => cases [0, 60, 0, 63].isPrefixOf (nums b) <;> rfl
set_option maxHeartbeats 1000000 in
theorem declare_Mark (b : ByteArray) (w : World) : Calls Tryz.prog 21 #[.string b] w fun e w' => e = .returned (.tuple #[.int .i8 (mrkV (nums b)).1, .int .i64 ((mrkV (nums b)).2.1 : Nat), .bool (mrkV (nums b)).2.2]) ∧ Below w.heap.size w w' := by
  have hm := atS_mark b
  have hb1 := (Below.refl w.heap.size w).alloc (Nat.le_refl _) (.cells #[.string ⟨#[239, 187, 191]⟩, .int .i8 0, .string ⟨#[255, 254]⟩, .int .i8 1, .string ⟨#[254, 255]⟩, .int .i8 2] 72)
  have k1 := BlkAt.new w #[.string ⟨#[239, 187, 191]⟩, .int .i8 0, .string ⟨#[255, 254]⟩, .int .i8 1, .string ⟨#[254, 255]⟩, .int .i8 2] 72
  obtain ⟨w1, hw1⟩ : ∃ x, w.alloc (.cells #[.string ⟨#[239, 187, 191]⟩, .int .i8 0, .string ⟨#[255, 254]⟩, .int .i8 1, .string ⟨#[254, 255]⟩, .int .i8 2] 72) = x := ⟨_, rfl⟩
  have s1 : w1.heap.size = w.heap.size + 1 := by rw [← hw1, World.size_alloc]
  rw [hw1] at hb1 k1
  obtain ⟨⟨⟨p, en⟩, ok⟩, hA⟩ : ∃ x, atS b mkL = x := ⟨_, rfl⟩
  have HI := Lib.hid (fun cap => by
    have h := declare_at b mkL w.heap.size cap w1 (by omega) (fun k h => by
      match k, h with
      | 0, _ => exact ⟨k1.cell 0 rfl, k1.cell 1 rfl⟩
      | 1, _ => exact ⟨k1.cell 2 rfl, k1.cell 3 rfl⟩
      | 2, _ => exact ⟨k1.cell 4 rfl, k1.cell 5 rfl⟩) (by decide)
    rw [hA, show mkL.length = 3 from rfl] at h
    exact h)
  rw [hA] at hm
  have HM := Lib.hid hm.symm
  clear hm hA k1
  go_enter Tryz.func21, Tryz.ntmps21
  go_wp2_with fail
  refine (HI.out _).mono ?_
  rintro e w3 ⟨rfl, hb3⟩
  have hb3 := hb1.trans (hb3.mono (by omega))
  go_wp2_with fail
  go_quiet (fail)
  go_wp2
  go_ret3
  exact ⟨by rw [HM.out]; rfl, below_dn (hb3.alloc hb3.size _) _⟩
set_option maxHeartbeats 1000000 in
theorem declare_Shape (b : ByteArray) (w : World) : Calls Tryz.prog 24 #[.string b] w fun e w' => e = .returned (.tuple #[.int .i8 (shpV (nums b)).1, .bool (shpV (nums b)).2]) ∧ Below w.heap.size w w' := by
  have hm := atS_shape b
  have hb1 := (Below.refl w.heap.size w).alloc (Nat.le_refl _) (.cells #[.string ⟨#[60, 0, 63, 0]⟩, .int .i8 1, .string ⟨#[0, 60, 0, 63]⟩, .int .i8 2] 72)
  have k1 := BlkAt.new w #[.string ⟨#[60, 0, 63, 0]⟩, .int .i8 1, .string ⟨#[0, 60, 0, 63]⟩, .int .i8 2] 72
  obtain ⟨w1, hw1⟩ : ∃ x, w.alloc (.cells #[.string ⟨#[60, 0, 63, 0]⟩, .int .i8 1, .string ⟨#[0, 60, 0, 63]⟩, .int .i8 2] 72) = x := ⟨_, rfl⟩
  have s1 : w1.heap.size = w.heap.size + 1 := by rw [← hw1, World.size_alloc]
  rw [hw1] at hb1 k1
  obtain ⟨⟨⟨p, en⟩, ok⟩, hA⟩ : ∃ x, atS b shL = x := ⟨_, rfl⟩
  have HI := Lib.hid (fun cap => by
    have h := declare_at b shL w.heap.size cap w1 (by omega) (fun k h => by
      match k, h with
      | 0, _ => exact ⟨k1.cell 0 rfl, k1.cell 1 rfl⟩
      | 1, _ => exact ⟨k1.cell 2 rfl, k1.cell 3 rfl⟩) (by decide)
    rw [hA, show shL.length = 2 from rfl] at h
    exact h)
  rw [hA] at hm
  have HM := Lib.hid hm.symm
  clear hm hA k1
  go_enter Tryz.func24, Tryz.ntmps24
  go_wp2_with fail
  refine (HI.out _).mono ?_
  rintro e w3 ⟨rfl, hb3⟩
  have hb3 := hb1.trans (hb3.mono (by omega))
  go_wp2_with fail
  go_ret2
  exact ⟨by rw [HM.out]; rfl, hb3.alloc hb3.size _⟩
theorem mrkV_le (b : ByteArray) : (mrkV (nums b)).2.1 ≤ b.size := by
  unfold mrkV
  cases e : markD (nums b) with
  | none => exact Nat.zero_le _
  | some p => have := (markD_len e).2; rw [nums_length] at this; exact this
/-- what is behind the mark. -/
def cutS (b : ByteArray) : ByteArray := b.extract (mrkV (nums b)).2.1 b.size
end Go.Proofs.YthahfoliblgegaaGreatDoor
/- 
  The library's variable MaxLen: it holds some number, and goes on holding it.
 -/
namespace Go.Proofs.YthahfoliblgegaaGreatDoor
open Go.RowKit
/-- the library's variable holds some number. -/
def MaxAt (w : World) (m : Int) : Prop := w.cell? ⟨3, 0, none⟩ = some (.int .i64 m)
theorem MaxAt.lt {w : World} {m : Int} (h : MaxAt w m) : 3 < w.heap.size := by
  unfold MaxAt at h
  simp only [World.cell?] at h
  by_cases hlt : 3 < w.heap.size
  · exact hlt
  · rw [Array.getElem?_eq_none (by omega)] at h; simp at h
theorem MaxAt.below {w w' : World} {m : Int} (hm : MaxAt w m) (hb : Below w.heap.size w w') : MaxAt w' m :=
  (hb.cell (p := ⟨3, 0, none⟩) hm.lt).trans hm
/-- a string's variable is not the library's. -/
theorem MaxAt.grown {w w' : World} {m : Int} (hm : MaxAt w m) {b : Nat} {s : ByteArray} {cs : Array Value} (hs : BlkAt w b (#[.string s] ++ cs)) (hg : w.grownBy w' (some b)) : MaxAt w' m := by
  refine (World.cell?_of_block (hg.block _ hm.lt (fun e => ?_))).trans hm
  injection e with e
  have e : 3 = b := e
  obtain ⟨t, h⟩ := hs
  rw [← e] at h
  unfold MaxAt at hm
  simp [World.cell?, h] at hm
  rw [Array.getElem?_append_left (by simp)] at hm
  simp at hm
end Go.Proofs.YthahfoliblgegaaGreatDoor
/- 
  Layer 7: the walk of (*cutter).part.
 -/
namespace Go.Proofs.YthahfoliblgegaaGreatDoor
open Go.RowKit
theorem empty_iff (s : ByteArray) : (s.toList == []) = decide (nums s = []) := by
  have h : (nums s = []) ↔ (s.toList == []) = true := by
    have e : s.toList = s.data.toList := ByteArray.toList_eq s
    rw [e]
    unfold nums
    cases h : s.data.toList <;> simp
  by_cases hn : nums s = []
  · rw [h.1 hn, decide_eq_true hn]
  · rw [decide_eq_false hn]
    cases e : s.toList == [] with
    | false => rfl
    | true => exact absurd (h.2 e) hn
theorem isBs_take {l : List Int} (h : isBs l) (P : Int → Bool) : isBs (l.takeWhile P) := fun x hx => h x ((List.takeWhile_sublist _).subset hx)
theorem isBs_drop {l : List Int} (h : isBs l) (P : Int → Bool) : isBs (l.dropWhile P) := fun x hx => h x ((List.dropWhile_sublist _).subset hx)
theorem isBs_dropN {l : List Int} (h : isBs l) (n : Nat) : isBs (l.drop n) := fun x hx => h x (List.mem_of_mem_drop hx)
theorem isBs_takeN {l : List Int} (h : isBs l) (n : Nat) : isBs (l.take n) := fun x hx => h x (List.mem_of_mem_take hx)
/-- the state within part: the cutter's text, the result's block. -/
structure PInD (w W : World) (b P : Nat) (s : ByteArray) : Prop where
  cur : Boxed W b 130 (.string s)
  out : BlkAt W P #[.string ⟨#[]⟩, .string ⟨#[]⟩]
  gr : w.grownBy W (some b)
  lt : b < P
  lo : w.heap.size ≤ P
theorem PInD.blk {w W : World} {b P : Nat} {s : ByteArray} (q : PInD w W b P s) : BlkAt W b #[.string s] := ⟨_, q.cur⟩
theorem PInD.set {w W : World} {b P : Nat} {s : ByteArray} (q : PInD w W b P s) (t : ByteArray) : PInD w (W.setCell ⟨b, 0, none⟩ (.string t)) b P t :=
  ⟨q.cur.set _, q.out.far (Nat.ne_of_gt q.lt) 0 _, ⟨q.gr.os, q.gr.tape, q.gr.output, by simpa using q.gr.size, fun k hk hne => by
    rw [heap_setCell_other W ⟨b, 0, none⟩ k _ (fun e => hne (by rw [e]))]
    exact q.gr.block k hk hne⟩, q.lt, q.lo⟩
theorem PInD.drewN {w W : World} {b P : Nat} {s : ByteArray} (q : PInD w W b P s) (n : Nat) : PInD w (W.drewN n) b P s :=
  ⟨q.cur, q.out.drewN n, ⟨q.gr.os, q.gr.tape, q.gr.output, q.gr.size, q.gr.block⟩, q.lt, q.lo⟩
theorem PInD.max {w W : World} {b P : Nat} {s s0 : ByteArray} (q : PInD w W b P s) {m : Int} (hm : MaxAt w m) (hs : Boxed w b 130 (.string s0)) : MaxAt W m := hm.grown (cs := #[]) (s := s0) ⟨_, hs⟩ q.gr
/-- what part comes to. -/
def partPost (w : World) (b : Nat) (s : ByteArray) (e : Ending) (w' : World) : Prop :=
  ∃ x y z ok, e = .returned (.tuple #[.agg #[.string x, .string y], .bool ok]) ∧ ok = (partD (nums s)).isSome ∧ Boxed w' b 130 (.string z) ∧ w.grownBy w' (some b) ∧ z.size ≤ s.size ∧
    ∀ p, partD (nums s) = some p → x = strOfNums p.1.1 ∧ y = strOfNums p.1.2 ∧ nums z = p.2
theorem PInD.fin {w W : World} {b P : Nat} {s s' : ByteArray} (q : PInD w W b P s') (x y : ByteArray) (ok : Bool) (hok : ok = (partD (nums s)).isSome) (hsz : s'.size ≤ s.size) (hp : ∀ p, partD (nums s) = some p → x = strOfNums p.1.1 ∧ y = strOfNums p.1.2 ∧ nums s' = p.2) :
    partPost w b s (.returned (.tuple #[.agg #[.string x, .string y], .bool ok])) ((W.setCell ⟨P, 0, none⟩ (.string x)).setCell ⟨P, 1, none⟩ (.string y)) := by
  have hlt := q.lt
  have hlo := q.lo
  refine ⟨x, y, s', ok, rfl, hok, (heap_setCell_other _ ⟨P, 1, none⟩ b _ (by show b ≠ P; omega)).trans (Boxed.other q.cur (by omega) _), ⟨q.gr.os, q.gr.tape, q.gr.output, by simpa using q.gr.size, fun k hk hne => ?_⟩, hsz, hp⟩
  rw [heap_setCell_other _ ⟨P, 1, none⟩ k _ (by show k ≠ P; omega), heap_setCell_other _ ⟨P, 0, none⟩ k _ (by show k ≠ P; omega)]
  exact q.gr.block k hk hne
theorem PInD.no {w W : World} {b P : Nat} {s s' : ByteArray} (q : PInD w W b P s') (h : partD (nums s) = none) (hsz : s'.size ≤ s.size) :
    partPost w b s (.returned (.tuple #[.agg #[.string ⟨#[]⟩, .string ⟨#[]⟩], .bool false])) ((W.setCell ⟨P, 0, none⟩ (.string ⟨#[]⟩)).setCell ⟨P, 1, none⟩ (.string ⟨#[]⟩)) :=
  q.fin _ _ _ (by rw [h]; rfl) hsz (fun p hp => by rw [h] at hp; cases hp)
theorem strOfNums_le {l : List Int} {s : ByteArray} (h : l.length ≤ s.size) : (strOfNums l).size ≤ s.size := by rw [strOfNums_size]; exact h
set_option maxHeartbeats 400000 in
theorem part_good (b P : Nat) (s s1 s2 s3 s4 s5 A B C D T S y z : ByteArray) (ok : Bool) (c : Int) (w W0 : World) (hP : w.heap.size = P) (_hbl : b < w.heap.size) (hW0 : w.alloc (.cells #[.string ⟨#[]⟩, .string ⟨#[]⟩] 88) = W0) (q0 : PInD w W0 b P s)
    (w1 : Hid (∀ W, PInD w W b P s → Calls Tryz.prog 133 #[.pointer (some ⟨b, 0, none⟩), .func (.func 100) #[] #[]] W fun e w' => e = .returned (.string A) ∧ w' = W.setCell ⟨b, 0, none⟩ (.string s1)))
    (w2 : Hid (∀ W, PInD w W b P s1 → Calls Tryz.prog 133 #[.pointer (some ⟨b, 0, none⟩), .func (.func 134) #[] #[]] W fun e w' => e = .returned (.string B) ∧ w' = W.setCell ⟨b, 0, none⟩ (.string s2)))
    (w3 : Hid (∀ W, PInD w W b P s2 → Calls Tryz.prog 133 #[.pointer (some ⟨b, 0, none⟩), .func (.func 100) #[] #[]] W fun e w' => e = .returned (.string C) ∧ w' = W.setCell ⟨b, 0, none⟩ (.string s3)))
    (w5 : Hid (∀ W, PInD w W b P s4 → Calls Tryz.prog 133 #[.pointer (some ⟨b, 0, none⟩), .func (.func 100) #[] #[]] W fun e w' => e = .returned (.string D) ∧ w' = W.setCell ⟨b, 0, none⟩ (.string s5)))
    (eA : (A.toList == []) = false) (eB : (B.toList == []) = false) (e5 : (s5.toList == []) = false)
    (HX : Hid (∀ u, Calls Tryz.prog 94 #[.string s3, .string ⟨#[61]⟩] u fun e w' => e = .returned (.bool true) ∧ u = w'))
    (z3' : (1 : Int) ≤ (s3.size : Int)) (hs4 : s3.extract 1 s3.size = s4) (_z5' : (0 : Int) < (s5.size : Int)) (z5'' : (1 : Int) ≤ (s5.size : Int)) (hT : s5.extract 1 s5.size = T) (hS : s5.extract 0 1 = S)
    (hix : ∀ w : World, (Instr.index 9 (.string s5) (.int .i64 0)).run Tryz.prog w = .ok (.int .u8 c) w)
    (c34 : (c != 34) = false ∨ ((c != 34) = true ∧ (c != 39) = false))
    (HCUT : Hid (∀ W, PInD w W b P s5 → Calls Tryz.prog 99 #[.string T, .string S] W fun e w' => e = .returned (.tuple #[.string y, .string z, .bool ok]) ∧ ∃ n, w' = W.drewN n))
    (HF : Hid (∀ W, PInD w W b P z → partPost w b s (.returned (.tuple #[.agg #[.string B, .string y], .bool ok])) ((W.setCell ⟨P, 0, none⟩ (.string B)).setCell ⟨P, 1, none⟩ (.string y)))) :
    Calls Tryz.prog 101 #[.pointer (some ⟨b, 0, none⟩)] w fun e w' => partPost w b s e w' := by
  go_enter Tryz.func101, Tryz.ntmps101
  go_wp2_with fail
  refine (w1.out _ q0).mono ?_
  rintro e w' ⟨rfl, rfl⟩
  have q1 := q0.set s1
  generalize W0.setCell ⟨b, 0, none⟩ (.string s1) = W1 at q1 ⊢
  go_wp2_with fail
  refine (w2.out _ q1).mono ?_
  rintro e w' ⟨rfl, rfl⟩
  have q2 := q1.set s2
  generalize W1.setCell ⟨b, 0, none⟩ (.string s2) = W2 at q2 ⊢
  go_wp2_with fail
  refine (w3.out _ q2).mono ?_
  rintro e w' ⟨rfl, rfl⟩
  have q3 := q2.set s3
  generalize W2.setCell ⟨b, 0, none⟩ (.string s3) = W3 at q3 ⊢
  have d0 := q3.blk.cell 0 rfl
  have d1 := q3.blk.free 0
  go_wp2_with fail
  refine (HX.out _).mono ?_
  rintro e w' ⟨rfl, rfl⟩
  go_wp2_with fail
  have q4 := q3.set s4
  generalize W3.setCell ⟨b, 0, none⟩ (.string s4) = W4 at q4 ⊢
  refine (w5.out _ q4).mono ?_
  rintro e w' ⟨rfl, rfl⟩
  have q5 := q4.set s5
  generalize W4.setCell ⟨b, 0, none⟩ (.string s5) = W5 at q5 ⊢
  have c0 := q5.out.cell 0 rfl
  have c1 := q5.out.cell 1 rfl
  have f0 := q5.out.free 0
  have f1 := q5.out.free 1
  have g0 := q5.blk.cell 0 rfl
  have g1 := q5.blk.free 0
  rcases c34 with c34 | ⟨c34, c39⟩
  all_goals
    go_wp2_with fail
    go_quiet ((go_at_call 99; exact Calls.quiet_of (HCUT.out _ (q5.drewN _))))
    have q6 := q5.drewN nq
    have q7 := q6.set z
    have h0 := q6.blk.free 0
    have h1 := q6.blk.cell 0 rfl
    have c0 := q7.out.cell 0 rfl
    have c1 := q7.out.cell 1 rfl
    have f0 := q7.out.free 0
    have f1 := q7.out.free 1
    have R := HF.out _ q7
    go_wp2_with fail
    refine bodyPost_ret (results_cell2 rfl _ _ _ _ _ rfl ((q7.out.set 0 _).set 1 _) Tryz.underlying88 rfl (by kernel_rfl)) rfl ?_
    exact R
set_option maxHeartbeats 4000000 in
theorem cutter_part (b : Nat) (s : ByteArray) (w : World) (m : Int) (hm : MaxAt w m) (hs : s.size ≤ 1000000) (hc : Boxed w b 130 (.string s)) :
    Calls Tryz.prog 101 #[.pointer (some ⟨b, 0, none⟩)] w fun e w' => partPost w b s e w' := by
  have hbl := hc.lt
  have q0 : PInD w (w.alloc (.cells #[.string ⟨#[]⟩, .string ⟨#[]⟩] 88)) b w.heap.size s := ⟨Boxed.alloc hc _, BlkAt.new w _ _, World.grownBy_alloc w _ _, hbl, Nat.le_refl _⟩
  obtain ⟨W0, hW0⟩ : ∃ x, w.alloc (.cells #[.string ⟨#[]⟩, .string ⟨#[]⟩] 88) = x := ⟨_, rfl⟩
  rw [hW0] at q0
  obtain ⟨P, hP⟩ : ∃ P, w.heap.size = P := ⟨_, rfl⟩
  rw [hP] at q0
  have hb0 := nums_isBs s
  -- the texts that are left, one behind the other
  obtain ⟨A, hA⟩ : ∃ x, strOfNums ((nums s).takeWhile whN) = x := ⟨_, rfl⟩
  obtain ⟨s1, hs1⟩ : ∃ x, strOfNums ((nums s).dropWhile whN) = x := ⟨_, rfl⟩
  have nA : nums A = (nums s).takeWhile whN := by rw [← hA, nums_strOfNums _ (isBs_take hb0 _)]
  have n1 : nums s1 = (nums s).dropWhile whN := by rw [← hs1, nums_strOfNums _ (isBs_drop hb0 _)]
  have l1 : s1.size ≤ s.size := by rw [← nums_length, ← nums_length, n1]; exact drop_len _ _
  obtain ⟨B, hB⟩ : ∃ x, strOfNums ((nums s1).takeWhile smN) = x := ⟨_, rfl⟩
  obtain ⟨s2, hs2⟩ : ∃ x, strOfNums ((nums s1).dropWhile smN) = x := ⟨_, rfl⟩
  have nB : nums B = (nums s1).takeWhile smN := by rw [← hB, nums_strOfNums _ (isBs_take (nums_isBs _) _)]
  have n2 : nums s2 = (nums s1).dropWhile smN := by rw [← hs2, nums_strOfNums _ (isBs_drop (nums_isBs _) _)]
  have l2 : s2.size ≤ s.size := by refine Nat.le_trans ?_ l1; rw [← nums_length, ← nums_length, n2]; exact drop_len _ _
  obtain ⟨C, hC⟩ : ∃ x, strOfNums ((nums s2).takeWhile whN) = x := ⟨_, rfl⟩
  obtain ⟨s3, hs3⟩ : ∃ x, strOfNums ((nums s2).dropWhile whN) = x := ⟨_, rfl⟩
  have n3 : nums s3 = (nums s2).dropWhile whN := by rw [← hs3, nums_strOfNums _ (isBs_drop (nums_isBs _) _)]
  have l3 : s3.size ≤ s.size := by refine Nat.le_trans ?_ l2; rw [← nums_length, ← nums_length, n3]; exact drop_len _ _
  have hpd : partD (nums s) = if nums A = [] then none else if nums B = [] then none else match nums s3 with
      | 61 :: t => (valD (t.dropWhile whN)).map fun p => ((nums B, p.1), p.2)
      | _ => none := by
    rw [nA, nB, n3, n2, n1]; rfl
  have HP := Lib.hid hpd
  have w1 := Lib.hid (fun (W : World) (q : PInD w W b P s) => by have h := while_white b s W (by omega) (q.blk.cell 0 rfl) (q.blk.free 0); rw [hA, hs1] at h; exact h)
  have w2 := Lib.hid (fun (W : World) (q : PInD w W b P s1) => by have h := while_small b s1 W (by omega) (q.blk.cell 0 rfl) (q.blk.free 0); rw [hB, hs2] at h; exact h)
  have w3 := Lib.hid (fun (W : World) (q : PInD w W b P s2) => by have h := while_white b s2 W (by omega) (q.blk.cell 0 rfl) (q.blk.free 0); rw [hC, hs3] at h; exact h)
  have eA := empty_iff A
  have eB := empty_iff B
  clear hpd hA hs1 hB hs2 hC hs3 nA nB n1 n2 n3
  by_cases hAe : nums A = []
  · rw [decide_eq_true hAe] at eA
    have HN := Lib.hid (show partD (nums s) = none by rw [HP.out, if_pos hAe])
    clear hAe eB
    go_enter Tryz.func101, Tryz.ntmps101
    go_wp2_with fail
    refine (w1.out _ q0).mono ?_
    rintro e w' ⟨rfl, rfl⟩
    have q1 := q0.set s1
    generalize W0.setCell ⟨b, 0, none⟩ (.string s1) = W1 at q1 ⊢
    have c0 := q1.out.cell 0 rfl
    have c1 := q1.out.cell 1 rfl
    have f0 := q1.out.free 0
    have f1 := q1.out.free 1
    go_wp2_with fail
    refine bodyPost_ret (results_cell2 rfl _ _ _ _ _ rfl ((q1.out.set 0 _).set 1 _) Tryz.underlying88 rfl (by kernel_rfl)) rfl ?_
    exact q1.no HN.out l1
  rw [decide_eq_false hAe] at eA
  by_cases hBe : nums B = []
  · rw [decide_eq_true hBe] at eB
    have HN := Lib.hid (show partD (nums s) = none by rw [HP.out, if_neg hAe, if_pos hBe])
    clear hAe hBe
    go_enter Tryz.func101, Tryz.ntmps101
    go_wp2_with fail
    refine (w1.out _ q0).mono ?_
    rintro e w' ⟨rfl, rfl⟩
    have q1 := q0.set s1
    generalize W0.setCell ⟨b, 0, none⟩ (.string s1) = W1 at q1 ⊢
    go_wp2_with fail
    refine (w2.out _ q1).mono ?_
    rintro e w' ⟨rfl, rfl⟩
    have q2 := q1.set s2
    generalize W1.setCell ⟨b, 0, none⟩ (.string s2) = W2 at q2 ⊢
    go_wp2_with fail
    refine (w3.out _ q2).mono ?_
    rintro e w' ⟨rfl, rfl⟩
    have q3 := q2.set s3
    generalize W2.setCell ⟨b, 0, none⟩ (.string s3) = W3 at q3 ⊢
    have c0 := q3.out.cell 0 rfl
    have c1 := q3.out.cell 1 rfl
    have f0 := q3.out.free 0
    have f1 := q3.out.free 1
    go_wp2_with fail
    refine bodyPost_ret (results_cell2 rfl _ _ _ _ _ rfl ((q3.out.set 0 _).set 1 _) Tryz.underlying88 rfl (by kernel_rfl)) rfl ?_
    exact q3.no HN.out l3
  rw [decide_eq_false hBe] at eB
  have hpx := preB_nums s3 ⟨#[61]⟩
  have HPX : ∀ (v : Bool), preB s3 ⟨#[61]⟩ = v → Hid (∀ u, Calls Tryz.prog 94 #[.string s3, .string ⟨#[61]⟩] u fun e w' => e = .returned (.bool v) ∧ u = w') := fun v hv => Lib.hid (fun u => by have h := Tryz.strings_HasPrefix s3 ⟨#[61]⟩ u; rw [show Lib.hasPrefix s3.data.toList (⟨#[61]⟩ : ByteArray).data.toList = v from hv] at h; exact h.mono fun _ _ ⟨h1, h2⟩ => ⟨h1, h2.symm⟩)
  by_cases h61 : [61].isPrefixOf (nums s3) = true
  rotate_left
  · have h61' : [61].isPrefixOf (nums s3) = false := Bool.eq_false_iff.2 h61
    have HX := HPX false (hpx.trans h61')
    have HN := Lib.hid (show partD (nums s) = none by
      rw [HP.out, if_neg hAe, if_neg hBe]
      split
      · rename_i t e; rw [e] at h61; simp at h61
      · rfl)
    clear hAe hBe hpx HPX h61 h61'
    go_enter Tryz.func101, Tryz.ntmps101
    go_wp2_with fail
    refine (w1.out _ q0).mono ?_
    rintro e w' ⟨rfl, rfl⟩
    have q1 := q0.set s1
    generalize W0.setCell ⟨b, 0, none⟩ (.string s1) = W1 at q1 ⊢
    go_wp2_with fail
    refine (w2.out _ q1).mono ?_
    rintro e w' ⟨rfl, rfl⟩
    have q2 := q1.set s2
    generalize W1.setCell ⟨b, 0, none⟩ (.string s2) = W2 at q2 ⊢
    go_wp2_with fail
    refine (w3.out _ q2).mono ?_
    rintro e w' ⟨rfl, rfl⟩
    have q3 := q2.set s3
    generalize W2.setCell ⟨b, 0, none⟩ (.string s3) = W3 at q3 ⊢
    have c0 := q3.out.cell 0 rfl
    have c1 := q3.out.cell 1 rfl
    have f0 := q3.out.free 0
    have f1 := q3.out.free 1
    have d0 := q3.blk.cell 0 rfl
    have d1 := q3.blk.free 0
    go_wp2_with fail
    refine (HX.out _).mono ?_
    rintro e w' ⟨rfl, rfl⟩
    go_wp2_with fail
    refine bodyPost_ret (results_cell2 rfl _ _ _ _ _ rfl ((q3.out.set 0 _).set 1 _) Tryz.underlying88 rfl (by kernel_rfl)) rfl ?_
    exact q3.no HN.out l3
  obtain ⟨t4, ht4⟩ : ∃ t, nums s3 = 61 :: t := by
    obtain ⟨u, hu⟩ := List.isPrefixOf_iff_prefix.1 h61
    exact ⟨u, hu.symm⟩
  have HX := HPX true (hpx.trans h61)
  have z3 : 1 ≤ s3.size := by rw [← nums_length, ht4]; simp
  have z3' : (1 : Int) ≤ (s3.size : Int) := by omega
  obtain ⟨s4, hs4⟩ : ∃ x, s3.extract 1 s3.size = x := ⟨_, rfl⟩
  have hl3 := nums_length s3
  rw [ht4, List.length_cons] at hl3
  have n4 : nums s4 = t4 := by rw [← hs4, nums_extD, ht4]; show t4.take _ = t4; exact List.take_of_length_le (by omega)
  have l4 : s4.size ≤ s.size := by refine Nat.le_trans ?_ l3; rw [← nums_length, ← nums_length, n4, ht4]; simp
  obtain ⟨D, hD⟩ : ∃ x, strOfNums ((nums s4).takeWhile whN) = x := ⟨_, rfl⟩
  obtain ⟨s5, hs5⟩ : ∃ x, strOfNums ((nums s4).dropWhile whN) = x := ⟨_, rfl⟩
  have n5 : nums s5 = t4.dropWhile whN := by rw [← hs5, nums_strOfNums _ (isBs_drop (nums_isBs _) _), n4]
  have l5 : s5.size ≤ s.size := by refine Nat.le_trans ?_ l4; rw [← nums_length, ← nums_length, n5, n4]; exact drop_len _ _
  have w5 := Lib.hid (fun (W : World) (q : PInD w W b P s4) => by have h := while_white b s4 W (by omega) (q.blk.cell 0 rfl) (q.blk.free 0); rw [hD, hs5] at h; exact h)
  have HP := Lib.hid (show partD (nums s) = (valD (nums s5)).map fun p => ((nums B, p.1), p.2) by rw [HP.out, if_neg hAe, if_neg hBe, ht4, n5]; rfl)
  have e5 := empty_iff s5
  have eBn := strOfNums_nums B
  clear hpx HPX h61 hAe hBe hD hs5 n5 n4 ht4
  cases hn5 : nums s5 with
  | nil =>
    rw [hn5, decide_eq_true rfl] at e5
    have HN := Lib.hid (show partD (nums s) = none by rw [HP.out, hn5]; rfl)
    clear hn5
    go_enter Tryz.func101, Tryz.ntmps101
    go_wp2_with fail
    refine (w1.out _ q0).mono ?_
    rintro e w' ⟨rfl, rfl⟩
    have q1 := q0.set s1
    generalize W0.setCell ⟨b, 0, none⟩ (.string s1) = W1 at q1 ⊢
    go_wp2_with fail
    refine (w2.out _ q1).mono ?_
    rintro e w' ⟨rfl, rfl⟩
    have q2 := q1.set s2
    generalize W1.setCell ⟨b, 0, none⟩ (.string s2) = W2 at q2 ⊢
    go_wp2_with fail
    refine (w3.out _ q2).mono ?_
    rintro e w' ⟨rfl, rfl⟩
    have q3 := q2.set s3
    generalize W2.setCell ⟨b, 0, none⟩ (.string s3) = W3 at q3 ⊢
    have d0 := q3.blk.cell 0 rfl
    have d1 := q3.blk.free 0
    go_wp2_with fail
    refine (HX.out _).mono ?_
    rintro e w' ⟨rfl, rfl⟩
    go_wp2_with fail
    have q4 := q3.set s4
    generalize W3.setCell ⟨b, 0, none⟩ (.string s4) = W4 at q4 ⊢
    refine (w5.out _ q4).mono ?_
    rintro e w' ⟨rfl, rfl⟩
    have q5 := q4.set s5
    generalize W4.setCell ⟨b, 0, none⟩ (.string s5) = W5 at q5 ⊢
    have c0 := q5.out.cell 0 rfl
    have c1 := q5.out.cell 1 rfl
    have f0 := q5.out.free 0
    have f1 := q5.out.free 1
    have g0 := q5.blk.cell 0 rfl
    have g1 := q5.blk.free 0
    go_wp2_with fail
    refine bodyPost_ret (results_cell2 rfl _ _ _ _ _ rfl ((q5.out.set 0 _).set 1 _) Tryz.underlying88 rfl (by kernel_rfl)) rfl ?_
    exact q5.no HN.out l5
  | cons c v =>
    rw [hn5, decide_eq_false (by simp)] at e5
    have z5 : 0 < s5.size := by rw [← nums_length, hn5]; simp
    have hc5 : (s5[0].toNat : Int) = c := by
      have h := nums_drop s5 0 z5
      rw [List.drop_zero, hn5] at h
      injection h with h1 h2
      exact h1.symm
    have hix := index_str s5 0 z5 c 0 hc5 rfl
    have z5' : (0 : Int) < (s5.size : Int) := by omega
    have z5'' : (1 : Int) ≤ (s5.size : Int) := by omega
    by_cases hq : c = 34 ∨ c = 39
    rotate_left
    · have c34 : (c != 34) = true := by simpa using fun e => hq (.inl e)
      have c39 : (c != 39) = true := by simpa using fun e => hq (.inr e)
      have HN := Lib.hid (show partD (nums s) = none by rw [HP.out, hn5, valD, if_neg hq]; rfl)
      clear hn5 hq hc5
      go_enter Tryz.func101, Tryz.ntmps101
      go_wp2_with fail
      refine (w1.out _ q0).mono ?_
      rintro e w' ⟨rfl, rfl⟩
      have q1 := q0.set s1
      generalize W0.setCell ⟨b, 0, none⟩ (.string s1) = W1 at q1 ⊢
      go_wp2_with fail
      refine (w2.out _ q1).mono ?_
      rintro e w' ⟨rfl, rfl⟩
      have q2 := q1.set s2
      generalize W1.setCell ⟨b, 0, none⟩ (.string s2) = W2 at q2 ⊢
      go_wp2_with fail
      refine (w3.out _ q2).mono ?_
      rintro e w' ⟨rfl, rfl⟩
      have q3 := q2.set s3
      generalize W2.setCell ⟨b, 0, none⟩ (.string s3) = W3 at q3 ⊢
      have d0 := q3.blk.cell 0 rfl
      have d1 := q3.blk.free 0
      go_wp2_with fail
      refine (HX.out _).mono ?_
      rintro e w' ⟨rfl, rfl⟩
      go_wp2_with fail
      have q4 := q3.set s4
      generalize W3.setCell ⟨b, 0, none⟩ (.string s4) = W4 at q4 ⊢
      refine (w5.out _ q4).mono ?_
      rintro e w' ⟨rfl, rfl⟩
      have q5 := q4.set s5
      generalize W4.setCell ⟨b, 0, none⟩ (.string s5) = W5 at q5 ⊢
      have c0 := q5.out.cell 0 rfl
      have c1 := q5.out.cell 1 rfl
      have f0 := q5.out.free 0
      have f1 := q5.out.free 1
      have g0 := q5.blk.cell 0 rfl
      have g1 := q5.blk.free 0
      go_wp2_with fail
      refine bodyPost_ret (results_cell2 rfl _ _ _ _ _ rfl ((q5.out.set 0 _).set 1 _) Tryz.underlying88 rfl (by kernel_rfl)) rfl ?_
      exact q5.no HN.out l5
    · obtain ⟨T, hT⟩ : ∃ x, s5.extract 1 s5.size = x := ⟨_, rfl⟩
      obtain ⟨S, hS⟩ : ∃ x, s5.extract 0 1 = x := ⟨_, rfl⟩
      have hl5 := nums_length s5
      rw [hn5, List.length_cons] at hl5
      have nT : nums T = v := by rw [← hT, nums_extD, hn5]; show v.take _ = v; exact List.take_of_length_le (by omega)
      have lT : T.size ≤ s.size := by refine Nat.le_trans ?_ l5; rw [← nums_length, ← nums_length, nT, hn5]; simp
      have nS : S.data.toList = [s5[0]] := by
        rw [← hS, ByteArray.data_extract, Array.toList_extract]
        have e : s5.data.toList = s5[0] :: s5.data.toList.tail := by
          cases e : s5.data.toList with
          | nil => have : s5.size = 0 := by rw [← nums_length]; unfold nums; rw [e]; rfl
                   omega
          | cons x y =>
            have : s5[0] = x := by
              show s5.data[0] = x
              rw [← Array.getElem_toList]
              simp [e]
            rw [this]; rfl
        rw [e]; simp
      have hidx : Lib.index T.data.toList S.data.toList = posI (posN c v) := by rw [nS, idx_one, numsL_of, nT, hc5]
      have hcut := cut_pos _ _ _ hidx
      rw [nS] at hcut
      have HCUT := Lib.hid (fun (W : World) (hmw : MaxAt W m) => by have h := Tryz.strings_Cut T S m W (by omega) hmw; rw [nS, hcut] at h; exact h)
      have HV := Lib.hid (show partD (nums s) = (posN c v).map fun i => ((nums B, v.take i), v.drop (i + 1)) by
        rw [HP.out, hn5, valD, if_pos hq]
        cases posN c v <;> rfl)
      have hvb : isBs v := by rw [← nT]; exact nums_isBs _
      have hTn : numsL T.data.toList = v := by rw [numsL_of, nT]
      clear hn5 hidx hcut nS nT hc5
      have HQ : ((c != 34) = false) ∨ ((c != 34) = true ∧ (c != 39) = false) := by
        by_cases e : c = 34
        · exact .inl (by simpa using e)
        · exact .inr ⟨by simpa using e, by simpa using hq.resolve_left e⟩
      cases hpv : posN c v with
      | none =>
        have hn : partD (nums s) = none := by rw [HV.out, hpv]; rfl
        rw [hpv] at HCUT
        refine part_good b P s s1 s2 s3 s4 s5 A B C D T S ⟨T.data.toList.toArray⟩ ⟨([] : List UInt8).toArray⟩ false c w W0 hP hbl hW0 q0 w1 w2 w3 w5 eA eB e5 HX z3' hs4 z5' z5'' hT hS hix HQ (Lib.hid fun W q => HCUT.out W (q.max hm hc)) (Lib.hid fun W q => ?_)
        exact q.fin B _ false (by rw [hn]; rfl) (Nat.zero_le _) (fun p hp => by rw [hn] at hp; cases hp)
      | some i =>
        have hn : partD (nums s) = some ((nums B, v.take i), v.drop (i + 1)) := by rw [HV.out, hpv]; rfl
        rw [hpv] at HCUT
        have e1 : (⟨(T.data.toList.take i).toArray⟩ : ByteArray) = strOfNums (v.take i) := by rw [← hTn, ← numsL_take, ← numsL_mk, strOfNums_nums]
        have e2 : nums (⟨(T.data.toList.drop (i + 1)).toArray⟩ : ByteArray) = v.drop (i + 1) := by rw [numsL_mk, numsL_drop, hTn]
        refine part_good b P s s1 s2 s3 s4 s5 A B C D T S ⟨(T.data.toList.take i).toArray⟩ ⟨(T.data.toList.drop (i + 1)).toArray⟩ true c w W0 hP hbl hW0 q0 w1 w2 w3 w5 eA eB e5 HX z3' hs4 z5' z5'' hT hS hix HQ (Lib.hid fun W q => HCUT.out W (q.max hm hc)) (Lib.hid fun W q => ?_)
        refine q.fin B _ true (by rw [hn]; rfl) ?_ (fun p hp => ?_)
        · rw [← nums_length, e2, List.length_drop]
          have := nums_length T
          rw [numsL_of] at hTn
          rw [hTn] at this
          omega
        · rw [hn] at hp
          cases hp
          exact ⟨eBn.symm, e1, e2⟩
end Go.Proofs.YthahfoliblgegaaGreatDoor
