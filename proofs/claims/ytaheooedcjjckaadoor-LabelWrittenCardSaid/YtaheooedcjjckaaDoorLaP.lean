/-
  Layer 5 in plain terms: the labels, white space trimmed, lower case; which encoding a label names.
-/
import Derived.Test.YtaheooedcjjckaaDoorLo
import Derived.Test.YtaheooedcjjckaaDoorNu
namespace Go.Proofs.YtaheooedcjjckaaDoor
def lab0 : List ByteArray := [⟨#[117, 116, 102, 45, 56]⟩, ⟨#[117, 116, 102, 56]⟩, ⟨#[117, 110, 105, 99, 111, 100, 101, 45, 49, 45, 49, 45, 117, 116, 102, 45, 56]⟩, ⟨#[117, 110, 105, 99, 111, 100, 101, 49, 49, 117, 116, 102, 56]⟩, ⟨#[120, 45, 117, 110, 105, 99, 111, 100, 101, 50, 48, 117, 116, 102, 56]⟩]
def lab1 : List ByteArray := [⟨#[117, 116, 102, 45, 49, 54]⟩, ⟨#[117, 116, 102, 45, 49, 54, 108, 101]⟩, ⟨#[117, 99, 115, 45, 50]⟩, ⟨#[105, 115, 111, 45, 49, 48, 54, 52, 54, 45, 117, 99, 115, 45, 50]⟩, ⟨#[99, 115, 117, 110, 105, 99, 111, 100, 101]⟩, ⟨#[117, 110, 105, 99, 111, 100, 101]⟩, ⟨#[117, 110, 105, 99, 111, 100, 101, 102, 101, 102, 102]⟩]
def lab2 : List ByteArray := [⟨#[117, 116, 102, 45, 49, 54, 98, 101]⟩, ⟨#[117, 110, 105, 99, 111, 100, 101, 102, 102, 102, 101]⟩]
def lab3 : List ByteArray := [⟨#[119, 105, 110, 100, 111, 119, 115, 45, 49, 50, 53, 50]⟩, ⟨#[99, 112, 49, 50, 53, 50]⟩, ⟨#[120, 45, 99, 112, 49, 50, 53, 50]⟩, ⟨#[97, 115, 99, 105, 105]⟩, ⟨#[117, 115, 45, 97, 115, 99, 105, 105]⟩, ⟨#[97, 110, 115, 105, 95, 120, 51, 46, 52, 45, 49, 57, 54, 56]⟩, ⟨#[105, 115, 111, 45, 56, 56, 53, 57, 45, 49]⟩, ⟨#[105, 115, 111, 56, 56, 53, 57, 45, 49]⟩, ⟨#[105, 115, 111, 95, 56, 56, 53, 57, 45, 49]⟩, ⟨#[105, 115, 111, 56, 56, 53, 57, 49]⟩, ⟨#[108, 97, 116, 105, 110, 49]⟩, ⟨#[108, 49]⟩, ⟨#[99, 112, 56, 49, 57]⟩, ⟨#[105, 98, 109, 56, 49, 57]⟩, ⟨#[99, 115, 105, 115, 111, 108, 97, 116, 105, 110, 49]⟩]
def lab4 : List ByteArray := [⟨#[105, 115, 111, 45, 56, 56, 53, 57, 45, 53]⟩, ⟨#[105, 115, 111, 56, 56, 53, 57, 45, 53]⟩, ⟨#[105, 115, 111, 95, 56, 56, 53, 57, 45, 53]⟩, ⟨#[105, 115, 111, 56, 56, 53, 57, 53]⟩, ⟨#[99, 121, 114, 105, 108, 108, 105, 99]⟩, ⟨#[99, 115, 105, 115, 111, 108, 97, 116, 105, 110, 99, 121, 114, 105, 108, 108, 105, 99]⟩]
def lab5 : List ByteArray := [⟨#[105, 115, 111, 45, 56, 56, 53, 57, 45, 49, 53]⟩, ⟨#[105, 115, 111, 56, 56, 53, 57, 45, 49, 53]⟩, ⟨#[105, 115, 111, 95, 56, 56, 53, 57, 45, 49, 53]⟩, ⟨#[105, 115, 111, 56, 56, 53, 57, 49, 53]⟩, ⟨#[108, 57]⟩, ⟨#[99, 115, 105, 115, 111, 108, 97, 116, 105, 110, 57]⟩]
/-- the labels of an encoding. -/
def labL (e : Int) : List ByteArray := if e = 0 then lab0 else if e = 1 then lab1 else if e = 2 then lab2 else if e = 3 then lab3 else if e = 4 then lab4 else if e = 5 then lab5 else []
/-- an encoding's labels, with it. -/
def pairP (e : Nat) : List (Int × ByteArray) := (labL e).map fun l => ((e : Int), l)
/-- all of them, from an encoding on. -/
def restP (e : Nat) : List (Int × ByteArray) := (List.range' e (6 - e)).flatMap pairP
theorem restP_step (e : Nat) (h : e < 6) : restP e = pairP e ++ restP (e + 1) := by
  unfold restP
  rw [show 6 - e = (6 - (e + 1)) + 1 by omega, List.range'_succ, List.flatMap_cons]
theorem restP_end : restP 6 = [] := rfl
/-- the encoding that a label names: the first that has it. -/
def ofP (s : ByteArray) : List (Int × ByteArray) → Int × Bool
  | [] => (0, false)
  | p :: r => if p.2.toList == s.toList then (p.1, true) else ofP s r
def ofS (s : ByteArray) : Int × Bool := ofP s (restP 0)
theorem ofP_none (s : ByteArray) : ∀ l, (∀ p ∈ l, (p.2.toList == s.toList) = false) → ofP s l = (0, false)
  | [], _ => rfl
  | p :: r, h => by rw [ofP, h p (List.mem_cons_self ..), if_neg (by decide)]; exact ofP_none s r fun q hq => h q (List.mem_cons_of_mem _ hq)
theorem ofP_some (s : ByteArray) : ∀ (l g : List (Int × ByteArray)) (x : Int × ByteArray), (g ++ [x]) <+: l → (∀ p ∈ g, (p.2.toList == s.toList) = false) → (x.2.toList == s.toList) = true → ofP s l = (x.1, true)
  | [], g, x, h, _, _ => by have := h.length_le; simp at this
  | p :: r, [], x, h, _, hx => by
    obtain ⟨t, ht⟩ := h
    have e : x = p := by injection ht
    subst e
    rw [ofP, if_pos hx]
  | p :: r, y :: g, x, h, hg, hx => by
    rw [List.cons_append, List.cons_prefix_cons] at h
    have h1 := hg y (List.mem_cons_self ..)
    rw [h.1] at h1
    rw [ofP, if_neg (by rw [h1]; decide), ofP_some s r g x h.2 (fun q hq => hg q (List.mem_cons_of_mem _ hq)) hx]
/-- an encoding's name. -/
def namS (e : Int) : ByteArray := match labL e with
  | [] => ⟨#[]⟩
  | l :: _ => l
def wsN (c : Int) : Bool := c == 9 || c == 10 || c == 12 || c == 13 || c == 32
/-- a text without the white space at its ends. -/
def trimN (l : List Int) : List Int := ((l.dropWhile wsN).reverse.dropWhile wsN).reverse
def trimS (s : ByteArray) : ByteArray := strOfNums (trimN (nums s))
def lowS (s : ByteArray) : ByteArray := strOfNums (lowL (nums s))
theorem lowB_ws (c : Int) : wsN (lowB c) = wsN c := by
  unfold lowB
  split
  · unfold wsN
    rw [Bool.eq_iff_iff]
    simp
    omega
  · rfl
theorem dropWhile_map (f : Int → Int) (P : Int → Bool) (h : ∀ c, P (f c) = P c) : ∀ l : List Int, (l.map f).dropWhile P = (l.dropWhile P).map f
  | [] => rfl
  | c :: t => by
    rw [List.map_cons, List.dropWhile_cons, List.dropWhile_cons, h c]
    split
    · exact dropWhile_map f P h t
    · rfl
theorem trim_low (l : List Int) : trimN (lowL l) = lowL (trimN l) := by
  unfold trimN lowL
  rw [dropWhile_map _ _ lowB_ws, ← List.map_reverse, dropWhile_map _ _ lowB_ws, List.map_reverse]
theorem low_low (l : List Int) : lowL (lowL l) = lowL l := by
  unfold lowL
  rw [List.map_map]
  apply List.map_congr_left
  intro c _
  show lowB (lowB c) = lowB c
  by_cases h : 65 ≤ c ∧ c ≤ 90
  · have e : lowB c = c + 32 := if_pos h
    rw [e]
    exact if_neg (by omega)
  · have e : lowB c = c := if_neg h
    rw [e, e]
theorem dropWhile_idem (P : Int → Bool) : ∀ l : List Int, (l.dropWhile P).dropWhile P = l.dropWhile P
  | [] => rfl
  | c :: t => by
    rw [List.dropWhile_cons]
    split
    · exact dropWhile_idem P t
    · rename_i h; rw [List.dropWhile_cons, if_neg h]
theorem dropWhile_pre (P : Int → Bool) (l m : List Int) (hm : m <+: l) (hl : l.dropWhile P = l) : m.dropWhile P = m := by
  cases m with
  | nil => rfl
  | cons c t =>
    obtain ⟨u, rfl⟩ := hm
    rw [List.cons_append, List.dropWhile_cons] at hl
    rw [List.dropWhile_cons]
    split at hl
    · have := congrArg List.length hl
      have h2 := (List.dropWhile_suffix P (l := t ++ u)).length_le
      rw [List.length_cons] at this
      omega
    · rename_i h; rw [if_neg h]
theorem trim_trim (l : List Int) : trimN (trimN l) = trimN l := by
  obtain ⟨r, hr⟩ : ∃ r, (l.dropWhile wsN).reverse.dropWhile wsN = r := ⟨_, rfl⟩
  have h1 : r.dropWhile wsN = r := by rw [← hr]; exact dropWhile_idem _ _
  have h2 : r.reverse <+: l.dropWhile wsN := by
    rw [← List.reverse_suffix, List.reverse_reverse, ← hr]
    exact List.dropWhile_suffix _
  have h3 : r.reverse.dropWhile wsN = r.reverse := dropWhile_pre _ _ _ h2 (dropWhile_idem _ _)
  have h4 : trimN l = r.reverse := by unfold trimN; rw [hr]
  rw [h4]
  unfold trimN
  rw [h3, List.reverse_reverse, h1]
theorem trim_len (l : List Int) : (trimN l).length ≤ l.length := by
  unfold trimN
  rw [List.length_reverse]
  refine Nat.le_trans (List.dropWhile_suffix _).length_le ?_
  rw [List.length_reverse]
  exact (List.dropWhile_suffix _).length_le
theorem low_len (l : List Int) : (lowL l).length = l.length := by unfold lowL; rw [List.length_map]
theorem isBs_low {l : List Int} (h : isBs l) : isBs (lowL l) := by
  intro x hx
  unfold lowL at hx
  obtain ⟨c, hc, rfl⟩ := List.mem_map.1 hx
  have := h c hc
  unfold lowB
  split <;> omega
theorem isBs_trim {l : List Int} (h : isBs l) : isBs (trimN l) := by
  intro x hx
  unfold trimN at hx
  rw [List.mem_reverse] at hx
  have h1 := (List.dropWhile_sublist _).subset hx
  rw [List.mem_reverse] at h1
  exact h x ((List.dropWhile_sublist _).subset h1)
theorem nums_lowS (s : ByteArray) : nums (lowS s) = lowL (nums s) := nums_strOfNums _ (isBs_low (nums_isBs s))
theorem nums_trimS (s : ByteArray) : nums (trimS s) = trimN (nums s) := nums_strOfNums _ (isBs_trim (nums_isBs s))
theorem trimS_trimS (s : ByteArray) : trimS (trimS s) = trimS s := by unfold trimS; rw [show nums (strOfNums (trimN (nums s))) = trimN (nums s) from nums_trimS s, trim_trim]
theorem lowS_lowS (s : ByteArray) : lowS (lowS s) = lowS s := by unfold lowS; rw [show nums (strOfNums (lowL (nums s))) = lowL (nums s) from nums_lowS s, low_low]
theorem trimS_lowS (s : ByteArray) : trimS (lowS s) = lowS (trimS s) := by
  unfold trimS lowS
  rw [show nums (strOfNums (lowL (nums s))) = lowL (nums s) from nums_lowS s, show nums (strOfNums (trimN (nums s))) = trimN (nums s) from nums_trimS s, trim_low]
theorem lowS_size (s : ByteArray) : (lowS s).size = s.size := by rw [← nums_length, nums_lowS, low_len, nums_length]
theorem trimS_size (s : ByteArray) : (trimS s).size ≤ s.size := by rw [← nums_length, nums_trimS, ← nums_length]; exact trim_len _
/-- the place behind the white space in front. -/
def frmS (s : ByteArray) : Nat := ((nums s).takeWhile wsN).length
/-- the length of what is left of a text whose white space behind is cut off. -/
def endW (l : List Int) : Nat := (l.reverse.dropWhile wsN).length
theorem endW_nil : endW [] = 0 := rfl
theorem endW_snoc (l : List Int) (c : Int) : endW (l ++ [c]) = if wsN c then endW l else l.length + 1 := by
  unfold endW
  rw [List.reverse_append]
  show (List.dropWhile wsN (c :: l.reverse)).length = _
  rw [List.dropWhile_cons]
  split
  · rfl
  · simp
theorem endW_le (l : List Int) : endW l ≤ l.length := by
  unfold endW
  have := (List.dropWhile_suffix wsN (l := l.reverse)).length_le
  rw [List.length_reverse] at this
  exact this
theorem take_suffix_rev : ∀ (l r : List Int), r <:+ l.reverse → l.take r.length = r.reverse := by
  intro l r h
  rw [← List.reverse_prefix, List.reverse_reverse] at h
  obtain ⟨t, ht⟩ := h
  rw [← ht]
  rw [show r.length = r.reverse.length by rw [List.length_reverse]]
  exact List.take_left
/-- the text between the two places. -/
theorem trimS_ext (s : ByteArray) : s.extract (frmS s) (frmS s + endW ((nums s).drop (frmS s))) = trimS s := by
  have h1 : (nums s).drop (frmS s) = (nums s).dropWhile wsN := by
    unfold frmS
    generalize nums s = l
    induction l with
    | nil => rfl
    | cons c t ih =>
      rw [List.takeWhile_cons, List.dropWhile_cons]
      split
      · rw [List.length_cons, List.drop_succ_cons]; exact ih
      · rfl
  have h2 : nums (s.extract (frmS s) (frmS s + endW ((nums s).drop (frmS s)))) = trimN (nums s) := by
    have e : nums (s.extract (frmS s) (frmS s + endW ((nums s).drop (frmS s)))) = ((nums s).drop (frmS s)).take (endW ((nums s).drop (frmS s))) := by
      unfold nums
      rw [ByteArray.data_extract, Array.toList_extract, List.map_take, List.map_drop, Nat.add_sub_cancel_left]
    rw [e, h1]
    unfold endW trimN
    exact take_suffix_rev _ _ (List.dropWhile_suffix _)
  rw [← strOfNums_nums (s.extract _ _), h2]
  rfl
end Go.Proofs.YtaheooedcjjckaaDoor
