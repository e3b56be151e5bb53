/-
  Layer 7 in plain terms: what stands inside a declaration; all its parts; what stands behind makes no difference; parts put together are told; never two signs.
-/
import Derived.Test.YtjemlaiciacnpaaDeP
import Derived.Test.YtjemlaiciacnpaaNu
namespace Go.Proofs.Ytjemlaiciacnpaa
open Go.Lib
/-- where "?>" first stands. -/
def endP : List Int → Option Nat
  | [] => none
  | a :: t => if a = 63 ∧ t.head? = some 62 then some 0 else (endP t).map (· + 1)
theorem endP_lt : ∀ (l : List Int) (n : Nat), endP l = some n → n + 1 < l.length
  | [], n, h => by cases h
  | a :: t, n, h => by
    rw [endP] at h
    split at h
    · rename_i hc
      cases h
      cases t with
      | nil => simp at hc
      | cons b u => simp
    · cases e : endP t with
      | none => rw [e] at h; cases h
      | some m =>
        rw [e] at h
        cases h
        have := endP_lt t m e
        simp only [List.length_cons]; omega
theorem endP_app : ∀ (l m : List Int) (n : Nat), endP l = some n → endP (l ++ m) = some n
  | [], m, n, h => by cases h
  | a :: t, m, n, h => by
    rw [List.cons_append, endP]
    rw [endP] at h
    split at h
    · rename_i hc
      cases h
      rw [if_pos]
      refine ⟨hc.1, ?_⟩
      cases t with
      | nil => simp at hc
      | cons b u => exact hc.2
    · rename_i hc
      cases e : endP t with
      | none => rw [e] at h; cases h
      | some k =>
        rw [e] at h
        cases h
        have hl := endP_lt t k e
        rw [if_neg, endP_app t m k e]
        · rfl
        · rintro ⟨h1, h2⟩
          apply hc
          refine ⟨h1, ?_⟩
          cases t with
          | nil => simp at hl
          | cons b u => exact h2
theorem endP_found : ∀ (l m : List Int), 63 ∉ l → endP (l ++ 63 :: 62 :: m) = some l.length
  | [], m, _ => by simp [endP]
  | a :: t, m, h => by
    rw [List.mem_cons, not_or] at h
    rw [List.cons_append, endP, if_neg (fun e => h.1 e.1.symm), endP_found t m h.2]
    rfl
/-- a place as a number. -/
def posI (o : Option Nat) : Int := match o with
  | none => -1
  | some i => (i : Int)
theorem posI_succ (o : Option Nat) : (if posI o = -1 then -1 else posI o + 1) = posI (o.map (· + 1)) := by
  cases o with
  | none => rfl
  | some i => show (if (i : Int) = -1 then _ else _) = _; rw [if_neg (by omega)]; rfl
theorem idx_one (q : UInt8) : ∀ l : List UInt8, Lib.index l [q] = posI (posN q.toNat (numsL l))
  | [] => rfl
  | c :: t => by
    by_cases hc : c = q
    · subst hc
      rw [index_pre (c :: t) [c] (by simp [List.isPrefixOf])]
      simp [numsL, posN, posI]
    · have hn : ¬ ((c.toNat : Int) = (q.toNat : Int)) := fun e => hc (UInt8.toNat_inj.1 (by omega))
      rw [index_cons c t [q] (by simp [List.isPrefixOf]; exact fun e => hc e.symm), idx_one q t, posI_succ]
      show _ = posI (posN _ ((c.toNat : Int) :: numsL t))
      rw [posN, if_neg hn]
theorem numsL_head (t : List UInt8) (n : Nat) (hn : n < 256) : (numsL t).head? = some (n : Int) ↔ t.head? = some (UInt8.ofNat n) := by
  cases t with
  | nil => simp [numsL]
  | cons c t =>
    show some (c.toNat : Int) = some (n : Int) ↔ _
    rw [List.head?_cons, Option.some_inj, Option.some_inj]
    exact u8_eq c n hn
theorem idx_end : ∀ l : List UInt8, Lib.index l [63, 62] = posI (endP (numsL l))
  | [] => rfl
  | c :: t => by
    have hh := numsL_head t 62 (by decide)
    have hq := u8_eq c 63 (by decide)
    by_cases hc : c = 63 ∧ t.head? = some 62
    · have hp : ([63, 62] : List UInt8).isPrefixOf (c :: t) = true := by
        obtain ⟨rfl, h2⟩ := hc
        cases t with
        | nil => simp at h2
        | cons d u => simp at h2; subst h2; simp [List.isPrefixOf]
      rw [index_pre (c :: t) _ hp]
      show _ = posI (endP ((c.toNat : Int) :: numsL t))
      rw [endP, if_pos ⟨hq.2 hc.1, hh.2 hc.2⟩]
      rfl
    · have hp : ([63, 62] : List UInt8).isPrefixOf (c :: t) = false := by
        cases e : ([63, 62] : List UInt8).isPrefixOf (c :: t) with
        | false => rfl
        | true =>
          exfalso
          apply hc
          cases t with
          | nil => simp [List.isPrefixOf] at e
          | cons d u => simp [List.isPrefixOf] at e; exact ⟨e.1.symm, by rw [← e.2]; rfl⟩
      rw [index_cons c t _ hp, idx_end t, posI_succ]
      show _ = posI (endP ((c.toNat : Int) :: numsL t))
      rw [endP, if_neg (fun h => hc ⟨hq.1 h.1, hh.1 h.2⟩)]
def cutO (l : List UInt8) (n : Nat) : Option Nat → List UInt8 × List UInt8 × Bool
  | none => (l, [], false)
  | some i => (l.take i, l.drop (i + n), true)
theorem cut_pos (l sub : List UInt8) (o : Option Nat) (h : Lib.index l sub = posI o) : Lib.cut l sub = cutO l sub.length o := by
  unfold Lib.cut
  rw [h]
  cases o with
  | none => rfl
  | some i => simp [posI, cutO]
theorem numsL_take (l : List UInt8) (n : Nat) : numsL (l.take n) = (numsL l).take n := by unfold numsL; rw [List.map_take]
theorem numsL_drop (l : List UInt8) (n : Nat) : numsL (l.drop n) = (numsL l).drop n := by unfold numsL; rw [List.map_drop]
theorem pre_nums : ∀ (p l : List UInt8), p.isPrefixOf l = (numsL p).isPrefixOf (numsL l)
  | [], l => by simp [numsL, List.isPrefixOf]
  | _ :: _, [] => by simp [numsL, List.isPrefixOf]
  | a :: p, c :: l => by
    show (a == c && p.isPrefixOf l) = (((a.toNat : Int) == (c.toNat : Int)) && (numsL p).isPrefixOf (numsL l))
    rw [pre_nums p l]
    congr 1
    by_cases h : a = c
    · subst h; simp
    · have hn : ¬ ((a.toNat : Int) = (c.toNat : Int)) := fun e => h (UInt8.toNat_inj.1 (by omega))
      rw [beq_eq_false_iff_ne.2 h, beq_eq_false_iff_ne.2 hn]
/-- the mark: the encoding, its length. -/
def markD (l : List Int) : Option (Int × Nat) :=
  if [239, 187, 191].isPrefixOf l = true then some (0, 3) else if [255, 254].isPrefixOf l = true then some (1, 2) else if [254, 255].isPrefixOf l = true then some (2, 2) else none
/-- the shape: the encoding. -/
def shapeD (l : List Int) : Option Int :=
  if [60, 0, 63, 0].isPrefixOf l = true then some 1 else if [0, 60, 0, 63].isPrefixOf l = true then some 2 else none
/-- what stands inside a declaration, of a text that is cut. -/
def insB (b : List Int) : Option (List Int) :=
  if [60, 63, 120, 109, 108].isPrefixOf b = true ∧ (b.drop 5).head?.map whN = some true then (endP (b.drop 5)).map ((b.drop 5).take ·) else none
def partsB (b : List Int) : List (List Int × List Int) := match insB b with
  | none => []
  | some s => parD (s.length + 1) s
def partsD (l : List Int) : List (List Int × List Int) := partsB (l.take 200)
/-- the label: the first part that is so named. -/
def scanD : List (List Int × List Int) → Option (List Int)
  | [] => none
  | p :: r => if p.1 = [101, 110, 99, 111, 100, 105, 110, 103] then some p.2 else scanD r
theorem partsD_front (l : List Int) : partsD (l.take 200) = partsD l := by unfold partsD; rw [List.take_take, Nat.min_self]
theorem insB_app (b m s : List Int) (h : insB b = some s) : insB (b ++ m) = some s := by
  unfold insB at h
  split at h
  · rename_i hc
    cases e : endP (b.drop 5) with
    | none => rw [e] at h; cases h
    | some n =>
      rw [e] at h
      cases h
      have hl := endP_lt _ _ e
      have h5 : 5 ≤ b.length := by rw [List.length_drop] at hl; omega
      have hd : (b ++ m).drop 5 = b.drop 5 ++ m := by rw [List.drop_append_of_le_length h5]
      have hp : [60, 63, 120, 109, 108].isPrefixOf (b ++ m) = true := List.isPrefixOf_iff_prefix.2 ((List.isPrefixOf_iff_prefix.1 hc.1).trans (List.prefix_append _ _))
      have hh : (b.drop 5 ++ m).head?.map whN = some true := by
        cases e2 : b.drop 5 with
        | nil => rw [e2] at hl; simp at hl
        | cons c t => have := hc.2; rw [e2] at this; exact this
      unfold insB
      rw [hd, if_pos ⟨hp, hh⟩, endP_app _ m n e]
      show some ((b.drop 5 ++ m).take n) = _
      rw [List.take_append_of_le_length (by omega)]
  · cases h
theorem partsD_more (l m : List Int) (h : partsD l ≠ []) : partsD (l ++ m) = partsD l := by
  by_cases hl : 200 ≤ l.length
  · unfold partsD
    rw [List.take_append_of_le_length hl]
  · have h1 : l.take 200 = l := List.take_of_length_le (by omega)
    have h2 : (l ++ m).take 200 = l ++ m.take (200 - l.length) := by rw [List.take_append, h1]
    unfold partsD at h ⊢
    rw [h2, h1]
    rw [h1] at h
    unfold partsB at h ⊢
    cases e : insB l with
    | none => rw [e] at h; exact absurd rfl h
    | some s => rw [insB_app l _ s e]
theorem scanD_nil {l : List (List Int × List Int)} (h : l = []) : scanD l = none := by rw [h]; rfl
/-- text that is made of parts. -/
def madeD : List (List Int × List Int) → List Int
  | [] => []
  | p :: r => 32 :: (p.1 ++ ([61, 34] ++ (p.2 ++ (34 :: madeD r))))
def goodD (p : List Int × List Int) : Prop := p.1 ≠ [] ∧ (∀ c ∈ p.1, smN c = true) ∧ ∀ c ∈ p.2, c ≠ 34 ∧ c ≠ 63
theorem sm_not_wh {c : Int} (h : smN c = true) : whN c = false := by
  unfold smN at h
  have := of_decide_eq_true h
  unfold whN
  rw [Bool.eq_false_iff]
  simp
  omega
theorem posN_at (q : Int) : ∀ (v r : List Int), (∀ c ∈ v, c ≠ q) → posN q (v ++ q :: r) = some v.length
  | [], r, _ => by simp [posN]
  | c :: v, r, h => by
    rw [List.cons_append, posN, if_neg (h c (List.mem_cons_self ..)), posN_at q v r fun x hx => h x (List.mem_cons_of_mem _ hx)]
    rfl
theorem takeWhile_app (P : Int → Bool) : ∀ (n r : List Int), (∀ c ∈ n, P c = true) → (r.head?.map P ≠ some true) → (n ++ r).takeWhile P = n ∧ (n ++ r).dropWhile P = r
  | [], r, _, h => by
    cases r with
    | nil => simp
    | cons c t =>
      have : P c = false := by simpa using h
      simp [this]
  | c :: n, r, hn, h => by
    obtain ⟨h1, h2⟩ := takeWhile_app P n r (fun x hx => hn x (List.mem_cons_of_mem _ hx)) h
    have hc := hn c (List.mem_cons_self ..)
    rw [List.cons_append, List.takeWhile_cons, List.dropWhile_cons, if_pos hc, if_pos hc, h1, h2]
    exact ⟨rfl, rfl⟩
theorem partD_made (p : List Int × List Int) (r : List Int) (hg : goodD p) : partD (32 :: (p.1 ++ ([61, 34] ++ (p.2 ++ (34 :: r))))) = some (p, r) := by
  obtain ⟨n, v⟩ := p
  obtain ⟨hn, hs, hv⟩ := hg
  dsimp only at hn hs hv ⊢
  cases n with
  | nil => exact absurd rfl hn
  | cons c n =>
    have hw : whN c = false := sm_not_wh (hs c (List.mem_cons_self ..))
    obtain ⟨a1, a2⟩ := takeWhile_app whN [32] ((c :: n) ++ ([61, 34] ++ (v ++ (34 :: r)))) (by simp [whN]) (by simp [hw])
    obtain ⟨b1, b2⟩ := takeWhile_app smN (c :: n) ([61, 34] ++ (v ++ (34 :: r))) hs (by simp [smN])
    obtain ⟨_, c2⟩ := takeWhile_app whN [] ([61, 34] ++ (v ++ (34 :: r))) (by simp) (by simp [whN])
    obtain ⟨_, d2⟩ := takeWhile_app whN [] (34 :: (v ++ (34 :: r))) (by simp) (by simp [whN])
    rw [List.nil_append] at c2 d2
    rw [show (32 : Int) :: (c :: n ++ ([61, 34] ++ (v ++ (34 :: r)))) = [32] ++ ((c :: n) ++ ([61, 34] ++ (v ++ (34 :: r)))) from rfl]
    unfold partD
    rw [a1, a2, b1, b2, c2, if_neg (by simp), if_neg (by simp)]
    show (valD ((34 :: (v ++ (34 :: r))).dropWhile whN)).map _ = _
    rw [d2]
    show ((posN 34 (v ++ 34 :: r)).map _).map _ = _
    rw [posN_at 34 v r fun x hx => (hv x hx).1]
    simp
theorem parD_made : ∀ (ps : List (List Int × List Int)) (f : Nat), (∀ p ∈ ps, goodD p) → (madeD ps).length < f → parD f (madeD ps) = ps
  | _, 0, _, h => absurd h (by omega)
  | [], f + 1, _, _ => by rw [madeD, parD]; rfl
  | p :: r, f + 1, hg, hl => by
    rw [madeD] at hl ⊢
    rw [parD, partD_made p (madeD r) (hg p (List.mem_cons_self ..))]
    show p :: parD f (madeD r) = _
    rw [parD_made r f (fun q hq => hg q (List.mem_cons_of_mem _ hq)) (by simp only [List.length_cons, List.length_append, List.length_nil] at hl; omega)]
theorem madeD_63 : ∀ (ps : List (List Int × List Int)), (∀ p ∈ ps, goodD p) → 63 ∉ madeD ps
  | [], _ => by simp [madeD]
  | p :: r, hg => by
    have ih := madeD_63 r fun q hq => hg q (List.mem_cons_of_mem _ hq)
    obtain ⟨_, h2, h3⟩ := hg p (List.mem_cons_self ..)
    rw [madeD]
    simp only [List.mem_cons, List.mem_append, not_or]
    refine ⟨by decide, fun h => ?_, ⟨by decide, by decide, by simp⟩, fun h => (h3 _ h).2 rfl, by decide, ih⟩
    have := h2 _ h
    simp [smN] at this
/-- what stands between "<?xml" and "?>" in a text that is made. -/
def bodyD (ps : List (List Int × List Int)) : List Int := if ps = [] then [32] else madeD ps
theorem partsD_made (ps : List (List Int × List Int)) (m : List Int) (hg : ∀ p ∈ ps, goodD p) (hl : (bodyD ps).length ≤ 190) : partsD ([60, 63, 120, 109, 108] ++ (bodyD ps ++ 63 :: 62 :: m)) = ps := by
  have h63 : 63 ∉ bodyD ps := by
    unfold bodyD
    split
    · decide
    · exact madeD_63 ps hg
  have hhead : ∃ t, bodyD ps = 32 :: t := by
    unfold bodyD
    split
    · exact ⟨[], rfl⟩
    · cases ps with
      | nil => rename_i h; exact absurd rfl h
      | cons p r => exact ⟨_, rfl⟩
  have hpar : parD ((bodyD ps).length + 1) (bodyD ps) = ps := by
    unfold bodyD
    split
    · rename_i h; rw [h]; rfl
    · exact parD_made ps _ hg (by omega)
  obtain ⟨B, hB⟩ : ∃ B, bodyD ps = B := ⟨_, rfl⟩
  rw [hB] at hl h63 hhead hpar ⊢
  have ht : ([60, 63, 120, 109, 108] ++ (B ++ 63 :: 62 :: m)).take 200 = [60, 63, 120, 109, 108] ++ (B ++ 63 :: 62 :: m.take (193 - B.length)) := by
    rw [List.take_append, List.take_of_length_le (by simp), List.take_append, List.take_of_length_le (by simp; omega)]
    have e : 200 - ([60, 63, 120, 109, 108] : List Int).length - B.length = (193 - B.length) + 2 := by simp; omega
    rw [e]
    rfl
  unfold partsD
  rw [ht]
  have hi : insB ([60, 63, 120, 109, 108] ++ (B ++ 63 :: 62 :: m.take (193 - B.length))) = some B := by
    unfold insB
    have hd : ([60, 63, 120, 109, 108] ++ (B ++ 63 :: 62 :: m.take (193 - B.length))).drop 5 = B ++ 63 :: 62 :: m.take (193 - B.length) := rfl
    rw [hd, if_pos, endP_found B _ h63]
    · simp
    · refine ⟨List.isPrefixOf_iff_prefix.2 (List.prefix_append _ _), ?_⟩
      obtain ⟨t, rfl⟩ := hhead
      rfl
  unfold partsB
  rw [hi]
  exact hpar
theorem insB_xml {b s : List Int} (h : insB b = some s) : ∃ t, b = 60 :: 63 :: t := by
  unfold insB at h
  split at h
  · rename_i hc
    obtain ⟨t, ht⟩ := List.isPrefixOf_iff_prefix.1 hc.1
    exact ⟨_, ht.symm⟩
  · cases h
theorem parts_xml {l : List Int} (h : partsD l ≠ []) : ∃ t, l = 60 :: 63 :: t := by
  unfold partsD partsB at h
  cases e : insB (l.take 200) with
  | none => rw [e] at h; exact absurd rfl h
  | some s =>
    obtain ⟨t, ht⟩ := insB_xml e
    match l, ht with
    | [], ht => simp at ht
    | [a], ht => simp at ht
    | a :: b :: u, ht =>
      rw [show (200 : Nat) = 198 + 1 + 1 from rfl, List.take_succ_cons, List.take_succ_cons] at ht
      injection ht with e1 e2
      injection e2 with e2 e3
      exact ⟨u, by rw [e1, e2]⟩
theorem apart_mark {l : List Int} {p : Int × Nat} (h : markD l = some p) : shapeD l = none ∧ partsD l = [] := by
  have hm : ∃ c t, l = c :: t ∧ (c = 239 ∨ c = 255 ∨ c = 254) := by
    unfold markD at h
    split at h
    · rename_i hc; obtain ⟨t, ht⟩ := List.isPrefixOf_iff_prefix.1 hc; exact ⟨_, _, ht.symm, .inl rfl⟩
    · split at h
      · rename_i hc; obtain ⟨t, ht⟩ := List.isPrefixOf_iff_prefix.1 hc; exact ⟨_, _, ht.symm, .inr (.inl rfl)⟩
      · split at h
        · rename_i hc; obtain ⟨t, ht⟩ := List.isPrefixOf_iff_prefix.1 hc; exact ⟨_, _, ht.symm, .inr (.inr rfl)⟩
        · cases h
  obtain ⟨c, t, rfl, hc⟩ := hm
  constructor
  · unfold shapeD
    rw [if_neg, if_neg]
    · intro h; obtain ⟨u, hu⟩ := List.isPrefixOf_iff_prefix.1 h; injection hu with e; omega
    · intro h; obtain ⟨u, hu⟩ := List.isPrefixOf_iff_prefix.1 h; injection hu with e; omega
  · refine Classical.byContradiction fun hn => ?_
    obtain ⟨u, hu⟩ := parts_xml hn
    injection hu with e
    omega
theorem apart_shape {l : List Int} {p : Int} (h : shapeD l = some p) : partsD l = [] := by
  refine Classical.byContradiction fun hn => ?_
  obtain ⟨u, rfl⟩ := parts_xml hn
  unfold shapeD at h
  rw [if_neg, if_neg] at h
  · cases h
  · intro h; obtain ⟨v, hv⟩ := List.isPrefixOf_iff_prefix.1 h; injection hv with e; omega
  · intro h; obtain ⟨v, hv⟩ := List.isPrefixOf_iff_prefix.1 h; injection hv with e e2; injection e2 with e3; omega
theorem markD_len {l : List Int} {p : Int × Nat} (h : markD l = some p) : 0 < p.2 ∧ p.2 ≤ l.length := by
  unfold markD at h
  split at h
  · rename_i hc; have := (List.isPrefixOf_iff_prefix.1 hc).length_le; cases h; exact ⟨by decide, this⟩
  · split at h
    · rename_i hc; have := (List.isPrefixOf_iff_prefix.1 hc).length_le; cases h; exact ⟨by decide, this⟩
    · split at h
      · rename_i hc; have := (List.isPrefixOf_iff_prefix.1 hc).length_le; cases h; exact ⟨by decide, this⟩
      · cases h
end Go.Proofs.Ytjemlaiciacnpaa
