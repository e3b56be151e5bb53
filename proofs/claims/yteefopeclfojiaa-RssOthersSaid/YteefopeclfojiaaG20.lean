/-
  Parts RtP RtO RtQ of this seat's texts, in one file: contracts of functions that the law reaches, and the plain laws behind them. No condition.
-/
import Derived.Test.YteefopeclfojiaaG16
import Derived.Test.YteefopeclfojiaaG12
import Derived.Test.YteefopeclfojiaaG17
import Derived.Test.YteefopeclfojiaaG19
/- 
  Layer 23 in plain terms: an element of another name, put in within a root, a channel or an item, makes no difference.
 -/
namespace Go.Proofs.Yteefopeclfojiaa
open Go.RowKit
/-- an element put in at a place. -/
def insF (U : KidT) : Fo → Nat → Fo
  | .nil, _ => .elt U.1 U.2.1 U.2.2 .nil
  | .txt t r, 0 => .elt U.1 U.2.1 U.2.2 (.txt t r)
  | .txt t r, o + 1 => .txt t (insF U r o)
  | .elt n a ks r, 0 => .elt U.1 U.2.1 U.2.2 (.elt n a ks r)
  | .elt n a ks r, o + 1 => if o ≤ ks.sz then .elt n a (insF U ks o) r else .elt n a ks (insF U r (o - ks.sz - 1))
/-- the names of the elements around a place. -/
def pathF : Fo → Nat → List NmT
  | .nil, _ => []
  | .txt _ _, 0 => []
  | .txt _ r, o + 1 => pathF r o
  | .elt _ _ _ _, 0 => []
  | .elt n _ ks r, o + 1 => if o ≤ ks.sz then n :: pathF ks o else pathF r (o - ks.sz - 1)
theorem elt_fl (U : KidT) (r : Fo) : (Fo.elt U.1 U.2.1 U.2.2 r).fl = flT U ++ r.fl := by
  rw [Fo.fl]
  unfold flT
  simp
theorem ins_fl (U : KidT) : ∀ (F : Fo) (o : Nat), o ≤ F.sz → (insF U F o).fl = F.fl.take o ++ (flT U ++ F.fl.drop o)
  | .nil, o, h => by
    have h0 : o = 0 := by rw [Fo.sz] at h; omega
    subst h0
    rw [insF, elt_fl]
    simp [Fo.fl]
  | .txt t r, 0, h => by rw [insF, elt_fl]; simp
  | .txt t r, o + 1, h => by
    rw [insF, Fo.fl, Fo.fl, ins_fl U r o (by rw [Fo.sz] at h; omega)]
    simp
  | .elt n a ks r, 0, h => by rw [insF, elt_fl]; simp
  | .elt n a ks r, o + 1, h => by
    rw [insF]
    rw [Fo.sz] at h
    by_cases hk : o ≤ ks.sz
    · rw [if_pos hk, Fo.fl, ins_fl U ks o hk, Fo.fl, List.take_succ_cons, List.drop_succ_cons, List.take_append_of_le_length (by rw [fl_len]; exact hk), List.drop_append_of_le_length (by rw [fl_len]; exact hk)]
      simp
    · obtain ⟨q, rfl⟩ : ∃ q, o = ks.fl.length + (q + 1) := ⟨o - ks.sz - 1, by rw [fl_len]; omega⟩
      rw [if_neg hk, Fo.fl, ins_fl U r _ (by have hl := fl_len ks; omega), Fo.fl, List.take_succ_cons, List.drop_succ_cons, List.take_length_add_append, List.drop_length_add_append, List.take_succ_cons, List.drop_succ_cons, fl_len, show ks.sz + (q + 1) - ks.sz - 1 = q by omega]
      simp
theorem ins_wf {U : KidT} (hU : WfT U) : ∀ (F : Fo) (o : Nat) (p : Bool), Wf p F → Wf p (insF U F o)
  | .nil, o, p, _ => ⟨hU.1, hU.2.1, hU.2.2, trivial⟩
  | .txt t r, 0, p, h => ⟨hU.1, hU.2.1, hU.2.2, ⟨rfl, h.2.1, h.2.2⟩⟩
  | .txt t r, o + 1, p, h => ⟨h.1, h.2.1, ins_wf hU r o true h.2.2⟩
  | .elt n a ks r, 0, p, h => ⟨hU.1, hU.2.1, hU.2.2, h⟩
  | .elt n a ks r, o + 1, p, h => by
    rw [insF]
    split
    · exact ⟨h.1, h.2.1, ins_wf hU ks o false h.2.2.1, h.2.2.2⟩
    · exact ⟨h.1, h.2.1, h.2.2.1, ins_wf hU r _ false h.2.2.2⟩
/-- the names that are open, an event more. -/
def stkS (l : List NmT) (e : Evt) : List NmT := if e.k = 0 then l ++ [e.n] else if e.k = 1 then l.dropLast else l
theorem stk_fl : ∀ (F : Fo) (s : List NmT), F.fl.foldl stkS s = s
  | .nil, s => rfl
  | .txt t r, s => by
    rw [Fo.fl, List.foldl_cons, show stkS s (evT t) = s from rfl, stk_fl r s]
  | .elt n a ks r, s => by
    rw [Fo.fl, List.foldl_cons, List.foldl_append, List.foldl_cons, show stkS s (evS n a) = s ++ [n] from rfl, stk_fl ks, show stkS (s ++ [n]) (evE n) = (s ++ [n]).dropLast from rfl, List.dropLast_concat, stk_fl r s]
theorem stk_take : ∀ (F : Fo) (o : Nat) (s : List NmT), o ≤ F.sz → (F.fl.take o).foldl stkS s = s ++ pathF F o
  | .nil, o, s, h => by simp [Fo.fl, pathF]
  | .txt t r, 0, s, h => by simp [pathF]
  | .txt t r, o + 1, s, h => by
    rw [Fo.fl, List.take_succ_cons, List.foldl_cons, show stkS s (evT t) = s from rfl, stk_take r o s (by rw [Fo.sz] at h; omega), pathF]
  | .elt n a ks r, 0, s, h => by simp [pathF]
  | .elt n a ks r, o + 1, s, h => by
    rw [Fo.sz] at h
    rw [pathF, Fo.fl, List.take_succ_cons, List.foldl_cons, show stkS s (evS n a) = s ++ [n] from rfl]
    by_cases hk : o ≤ ks.sz
    · rw [if_pos hk, List.take_append_of_le_length (by rw [fl_len]; exact hk), stk_take ks o _ hk, List.append_assoc]
      rfl
    · obtain ⟨q, rfl⟩ : ∃ q, o = ks.fl.length + (q + 1) := ⟨o - ks.sz - 1, by rw [fl_len]; omega⟩
      rw [if_neg hk, List.take_length_add_append, List.foldl_append, stk_fl ks, List.take_succ_cons, List.foldl_cons, show stkS (s ++ [n]) (evE n) = (s ++ [n]).dropLast from rfl, List.dropLast_concat, stk_take r q s (by rw [fl_len] at h; omega), fl_len, show ks.sz + (q + 1) - ks.sz - 1 = q by omega]
theorem ins_kids0 (U : KidT) : ∀ (F : Fo) (o : Nat), pathF F o = [] → ∃ A B, F.kids = A ++ B ∧ (insF U F o).kids = A ++ U :: B
  | .nil, o, h => ⟨[], [], rfl, rfl⟩
  | .txt t r, 0, h => ⟨[], r.kids, rfl, rfl⟩
  | .txt t r, o + 1, h => ins_kids0 U r o h
  | .elt n a ks r, 0, h => ⟨[], _, rfl, rfl⟩
  | .elt n a ks r, o + 1, h => by
    rw [pathF] at h
    rw [insF]
    by_cases hk : o ≤ ks.sz
    · rw [if_pos hk] at h; cases h
    · rw [if_neg hk] at h ⊢
      obtain ⟨A, B, h1, h2⟩ := ins_kids0 U r _ h
      exact ⟨(n, a, ks) :: A, B, by rw [Fo.kids, h1]; rfl, by rw [Fo.kids, h2]; rfl⟩
theorem ins_kids1 (U : KidT) {c : NmT} {P : List NmT} : ∀ (F : Fo) (o : Nat), pathF F o = c :: P → ∃ A a ks B q, F.kids = A ++ (c, a, ks) :: B ∧ (insF U F o).kids = A ++ (c, a, insF U ks q) :: B ∧ pathF ks q = P
  | .nil, o, h => by rw [pathF] at h; cases h
  | .txt t r, 0, h => by rw [pathF] at h; cases h
  | .txt t r, o + 1, h => ins_kids1 U r o h
  | .elt n a ks r, 0, h => by rw [pathF] at h; cases h
  | .elt n a ks r, o + 1, h => by
    rw [pathF] at h
    rw [insF]
    by_cases hk : o ≤ ks.sz
    · rw [if_pos hk] at h ⊢
      injection h with h1 h2
      subst h1
      exact ⟨[], a, ks, r.kids, o, rfl, rfl, h2⟩
    · rw [if_neg hk] at h ⊢
      obtain ⟨A, a', ks', B, q, h1, h2, h3⟩ := ins_kids1 U r _ h
      exact ⟨(n, a, ks) :: A, a', ks', B, q, by rw [Fo.kids, h1]; rfl, by rw [Fo.kids, h2]; rfl, h3⟩
/-- the names of fields. -/
def FN : List NmT := titleN ++ linkN ++ headF.id ++ headF.author ++ headF.content ++ headF.date ++ idsF 1 ++ (itemF 1).author ++ (itemF 1).content ++ (itemF 1).date
def othN : NmT := (⟨#[117, 114, 110, 58, 111, 116, 104, 101, 114]⟩, ⟨#[116, 105, 116, 108, 101]⟩)
/-- a root's, a channel's or an item's local name. -/
def opB (n : NmT) : Bool := (n.2.toList == [114, 115, 115]) || (n.2.toList == [82, 68, 70]) || (n.2.toList == [99, 104, 97, 110, 110, 101, 108]) || (n.2.toList == [105, 116, 101, 109])
theorem oth_FN : ∀ nm ∈ FN, namedB othN nm = false := by decide +kernel
theorem oth_chan : namedB othN chanN = false := by decide +kernel
theorem oth_item : namedB othN itN = false := by decide +kernel
theorem op_FN : ∀ nm ∈ FN, opB nm = false := by decide +kernel
theorem op_not {e nm : NmT} (h : opB e = true) (hn : nm ∈ FN) : namedB e nm = false := by
  cases hb : namedB e nm with
  | false => rfl
  | true =>
    unfold namedB at hb
    rw [Bool.and_eq_true, beq_iff_eq] at hb
    have h1 := op_FN nm hn
    unfold opB at h h1
    rw [hb.1, h1] at h
    cases h
theorem fieldF_congr {f g : NmT → Option ByteArray} : ∀ (ns : List NmT) (k : Nat), (∀ n ∈ ns, f n = g n) → fieldF f ns k = fieldF g ns k
  | [], _, _ => rfl
  | n :: ns, k, h => by
    rw [fieldF, fieldF, h n (List.mem_cons_self ..), fieldF_congr ns (k + 1) fun m hm => h m (List.mem_cons_of_mem _ hm)]
theorem fieldT_congr {F G : Fo} (h : ∀ nm ∈ FN, namT F nm = namT G nm) (ns : List NmT) (hn : ∀ nm ∈ ns, nm ∈ FN) : fieldT F ns = fieldT G ns := by
  unfold fieldT
  refine fieldF_congr ns 0 fun nm hm => ?_
  unfold fldT
  rw [h nm (hn nm hm)]
theorem idsF_or (f : Int) : idsF f = idsF 1 ∨ idsF f = headF.id := by
  unfold idsF
  by_cases h : f = 1
  · left; rw [if_pos h, if_pos rfl]
  · right; rw [if_neg h]; rfl
theorem sub_FN : (∀ nm ∈ titleN, nm ∈ FN) ∧ (∀ nm ∈ linkN, nm ∈ FN) ∧ (∀ nm ∈ headF.id, nm ∈ FN) ∧ (∀ nm ∈ headF.author, nm ∈ FN) ∧ (∀ nm ∈ headF.content, nm ∈ FN) ∧ (∀ nm ∈ headF.date, nm ∈ FN) ∧ (∀ nm ∈ idsF 1, nm ∈ FN) ∧ (∀ nm ∈ (itemF 1).author, nm ∈ FN) ∧ (∀ nm ∈ (itemF 1).content, nm ∈ FN) ∧ (∀ nm ∈ (itemF 1).date, nm ∈ FN) := by
  unfold FN
  refine ⟨?_, ?_, ?_, ?_, ?_, ?_, ?_, ?_, ?_, ?_⟩ <;> intro nm h <;> simp only [List.mem_append, h, true_or, or_true]
theorem found_congr {c : NmT} {a : List AtT} {F G : Fo} (h : ∀ nm ∈ FN, namT F nm = namT G nm) (f : Int) : foundT (c, a, F) headF = foundT (c, a, G) headF ∧ foundT (c, a, F) (itemF f) = foundT (c, a, G) (itemF f) := by
  obtain ⟨s1, s2, s3, s4, s5, s6, s7, s8, s9, s10⟩ := sub_FN
  have e1 := fieldT_congr h titleN s1
  have e2 := fieldT_congr h linkN s2
  have hid : fieldT F (idsF f) = fieldT G (idsF f) := by
    rcases idsF_or f with h1 | h1
    · rw [h1]; exact fieldT_congr h _ s7
    · rw [h1]; exact fieldT_congr h _ s3
  constructor
  · unfold foundT foundF
    simp only
    rw [e1, e2, fieldT_congr h _ s3, fieldT_congr h _ s4, fieldT_congr h _ s5, fieldT_congr h _ s6]
  · unfold foundT foundF
    simp only
    rw [e1, e2, show (itemF f).id = idsF f from rfl, hid, show (itemF f).author = (itemF 1).author from rfl, show (itemF f).content = (itemF 1).content from rfl, show (itemF f).date = (itemF 1).date from rfl, fieldT_congr h _ s8, fieldT_congr h _ s9, fieldT_congr h _ s10]
theorem nam_ins0 {U : KidT} {F : Fo} {o : Nat} (hp : pathF F o = []) {nm : NmT} (h : namedB U.1 nm = false) : namT (insF U F o) nm = namT F nm := by
  obtain ⟨A, B, h1, h2⟩ := ins_kids0 U F o hp
  unfold namT
  rw [h1, h2, List.filter_append, List.filter_append, List.filter_cons, if_neg (by rw [h]; exact Bool.false_ne_true)]
/-- two elements that are alike to all that is found. -/
structure Rk (f : Int) (U V : KidT) : Prop where
  nm : U.1 = V.1
  hd : foundT U headF = foundT V headF
  it : foundT U (itemF f) = foundT V (itemF f)
  its : itemsT U.2.2 f = itemsT V.2.2 f
theorem Rk.refl (f : Int) (U : KidT) : Rk f U U := ⟨rfl, rfl, rfl, rfl⟩
theorem both_same (f : Int) : ∀ B : List KidT, Both (Rk f) B B
  | [] => .nil
  | b :: B => .cons (Rk.refl f b) (both_same f B)
theorem both_mid {f : Int} {U V : KidT} (h : Rk f U V) : ∀ (A B : List KidT), Both (Rk f) (A ++ U :: B) (A ++ V :: B)
  | [], [] => .cons h .nil
  | [], b :: B => .cons h (both_same f (b :: B))
  | a :: A, B => .cons (Rk.refl f a) (both_mid h A B)
theorem feed_both {n : NmT} {a : List AtT} {F G : Fo} (h : Both (Rk (kindR n)) F.kids G.kids) : feedT (n, a, F) = feedT (n, a, G) := by
  have hn : ∀ nm, Both (Rk (kindR n)) (namT F nm) (namT G nm) := fun nm => h.filter fun U V hr => by rw [hr.nm]
  have hi : itemsT F (kindR n) = itemsT G (kindR n) := (hn itN).map fun U V hr => hr.it
  have hh := (hn chanN).head
  unfold feedT
  simp only
  by_cases h0 : kindR n = 0
  · rw [if_pos h0, if_pos h0]
  · rw [if_neg h0, if_neg h0]
    generalize (namT F chanN).head? = p at hh ⊢
    generalize (namT G chanN).head? = q at hh ⊢
    cases hh with
    | none => rw [hi]
    | some hr =>
      simp only
      rw [hi, hr.hd, hr.its]
theorem feed_nam {n : NmT} {a : List AtT} {F G : Fo} (h1 : namT F chanN = namT G chanN) (h2 : namT F itN = namT G itN) : feedT (n, a, F) = feedT (n, a, G) := by
  unfold feedT
  simp only
  have hi : ∀ f, itemsT F f = itemsT G f := fun f => by unfold itemsT; rw [h2]
  rw [h1, hi]
/-- an element of another name, put in at an open place. -/
theorem feed_ins {U : KidT} (hU : U.1 = othN) {n : NmT} {a : List AtT} {F : Fo} {o : Nat} (hp : pathF F o = [] ∨ (∃ c, pathF F o = [c]) ∨ ∃ c e, pathF F o = [c, e] ∧ opB e = true) : feedT (n, a, insF U F o) = feedT (n, a, F) := by
  have n0 : ∀ {G : Fo} {q : Nat}, pathF G q = [] → ∀ nm ∈ FN, namT (insF U G q) nm = namT G nm := fun h nm hm => nam_ins0 h (by rw [hU]; exact oth_FN nm hm)
  have ni : ∀ {G : Fo} {q : Nat}, pathF G q = [] → ∀ f, itemsT (insF U G q) f = itemsT G f := fun h f => by
    unfold itemsT
    rw [nam_ins0 h (by rw [hU]; exact oth_item)]
  rcases hp with hp | ⟨c, hp⟩ | ⟨c, e, hp, he⟩
  · exact feed_nam (nam_ins0 hp (by rw [hU]; exact oth_chan)) (nam_ins0 hp (by rw [hU]; exact oth_item))
  · obtain ⟨A, a1, ks, B, q, h1, h2, h3⟩ := ins_kids1 U F o hp
    refine feed_both ?_
    rw [h1, h2]
    obtain ⟨f1, f2⟩ := found_congr (c := c) (a := a1) (n0 h3) (kindR n)
    exact both_mid (show Rk (kindR n) (c, a1, insF U ks q) (c, a1, ks) from ⟨rfl, f1, f2, ni h3 _⟩) A B
  · obtain ⟨A, a1, ks, B, q, h1, h2, h3⟩ := ins_kids1 U F o hp
    obtain ⟨A2, a2, k2, B2, q2, g1, g2, g3⟩ := ins_kids1 U ks q h3
    refine feed_both ?_
    rw [h1, h2]
    have hks : ∀ nm ∈ FN, namT (insF U ks q) nm = namT ks nm := fun nm hm => by
      unfold namT
      rw [g1, g2, List.filter_append, List.filter_append, List.filter_cons, List.filter_cons, if_neg (by rw [op_not he hm]; exact Bool.false_ne_true), if_neg (by rw [op_not he hm]; exact Bool.false_ne_true)]
    obtain ⟨f1, f2⟩ := found_congr (c := c) (a := a1) hks (kindR n)
    refine both_mid (show Rk (kindR n) (c, a1, insF U ks q) (c, a1, ks) from ⟨rfl, f1, f2, ?_⟩) A B
    have hit := (found_congr (c := e) (a := a2) (n0 g3) (kindR n)).2
    unfold itemsT namT
    simp only
    rw [g1, g2, List.filter_append, List.filter_append, List.filter_cons, List.filter_cons]
    by_cases hb : namedB e itN = true
    · rw [if_pos hb, if_pos hb, List.map_append, List.map_append, List.map_cons, List.map_cons, hit]
    · rw [if_neg hb, if_neg hb]
end Go.Proofs.Yteefopeclfojiaa
/- 
  Layer 23: the walk of the law's open: does a place stand right within a root, a channel or an item?
 -/
namespace Go.Proofs.Yteefopeclfojiaa
open Go.RowKit
set_option maxRecDepth 100000 in
/-- 'append(l, n)', and what else keeps. -/
theorem OwnN.app1k {base : Nat} {w : World} {v : Value} {ns : List NmT} (h : OwnN base w v ns) (m : NmT) (hbase : base ≤ w.heap.size) (hn : ns.length + 1 ≤ 1000000) :
    ∃ a c w', (Builtin.append_ #[38, 38] 38 #[v, .slice (some ⟨w.heap.size, 0, none⟩) 1 1]).run Try.prog (w.alloc (.cells #[.string m.1, .string m.2] 24)) = .ok (.slice a (ns.length + 1) c) w' ∧ OwnN base w' (.slice a (ns.length + 1) c) (ns ++ [m]) ∧ Below base w w' ∧ ∀ b T cs, T ≠ 24 → RowAt w b T cs → RowAt w' b T cs := by
  obtain ⟨i0, hi, hz0, hz1, hz2⟩ := info_parts infoNm
  have hba := (Below.refl w.heap.size w).alloc (Nat.le_refl _) (.cells #[.string m.1, .string m.2] 24)
  have hx := h.below hba
  obtain ⟨v', w', hrun, k1, k2, _⟩ := run_append_own (P := Try.prog) (w.alloc (.cells #[.string m.1, .string m.2] 24)) base 38 38 24 i0 _ 2 32 Try.underlying38 hi hz0 hz1 hz2 rfl (by decide) v ns.length _ hx ⟨w.heap.size, 0, none⟩ 1 1 (nmC [m]) rfl
    (fun j u hj => by
      rw [addr0, World.cell?_alloc_mark]
      simpa [nmC] using hj)
    (nmC_one [m]) (by unfold maxLen; omega) (by omega) (by simp; omega)
  rw [← nmC_app] at k1
  have k3 : OwnN base w' v' (ns ++ [m]) := by unfold OwnN; rw [List.length_append]; exact k1
  obtain ⟨a', c', rfl⟩ := k3.form
  have e : (ns ++ [m]).length = ns.length + 1 := by simp
  rw [e] at hrun k3
  exact ⟨a', c', w', hrun, k3, (hba.mono hbase).trans (ownBelow hx k2 (Nat.le_refl _) (by simp; omega)), fun b T cs hT hb => grown_row hx k2 (hb.alloc _) hT⟩
theorem OwnN.addr {base : Nat} {w : World} {a : Option Addr} {n c : Nat} {ns : List NmT} (h : OwnN base w (.slice a n c) ns) (h0 : 0 < ns.length) : ∃ g, a = some ⟨g, 0, none⟩ := by
  rcases h.2 with ⟨-, h2⟩ | ⟨g, cap, cur, h2, -⟩
  · omega
  · injection h2 with h2
    exact ⟨g, h2⟩
theorem nmC_tk : ∀ (l : List NmT) (m : Nat), nmC (l.take m) = (nmC l).take (m * 2)
  | [], m => by simp [nmC]
  | x :: l, 0 => by simp [nmC]
  | x :: l, m + 1 => by
    have h := nmC_tk l m
    unfold nmC at h ⊢
    rw [List.take_succ_cons, List.flatMap_cons, List.flatMap_cons, h, show (m + 1) * 2 = m * 2 + 1 + 1 by omega]
    rfl
theorem OwnN.cut {base : Nat} {w : World} {g n c : Nat} {ns : List NmT} (h : OwnN base w (.slice (some ⟨g, 0, none⟩) n c) ns) (hn : ns.length = n) : OwnN base w (.slice (some ⟨g, 0, none⟩) (n - 1) c) ns.dropLast ∧ n ≤ c := by
  subst hn
  constructor
  · have h1 := own_cut h (ns.length - 1) (by omega)
    rw [← nmC_tk] at h1
    unfold OwnN
    rw [List.length_dropLast, List.dropLast_eq_take]
    exact h1
  · obtain ⟨a', c', h5, h6, -⟩ := own_capR h
    injection h5 with h7 h8 h9
    omega
/-- the names that are open at a place. -/
def stkN (es : List Evt) (k : Nat) : List NmT := (es.take k).foldl stkS []
theorem stkN_snoc {es : List Evt} {k : Nat} {x : Evt} (h : es[k]? = some x) : stkN es (k + 1) = stkS (stkN es k) x := by
  unfold stkN
  rw [List.take_add_one, h, List.foldl_append]
  rfl
theorem stkN_len (es : List Evt) : ∀ k, (stkN es k).length ≤ k
  | 0 => Nat.le_refl _
  | k + 1 => by
    cases h : es[k]? with
    | none =>
      have h1 : es.length ≤ k := List.getElem?_eq_none_iff.1 h
      have h2 := stkN_len es k
      have h3 : stkN es (k + 1) = stkN es k := by unfold stkN; rw [List.take_of_length_le (by omega), List.take_of_length_le h1]
      rw [h3]
      omega
    | some x =>
      have h2 := stkN_len es k
      rw [stkN_snoc h]
      unfold stkS
      split
      · simp; omega
      · split
        · simp; omega
        · omega
def openB (l : List NmT) : Bool := match l.getLast? with
  | none => false
  | some n => opB n && decide (l.length ≤ 3)
set_option maxRecDepth 100000 in
set_option maxHeartbeats 8000000 in
theorem law23_open (B : Nat) (es : List Evt) (v : Value) (q : Nat) (w : World) (hE : REv B es v w) (hq : q ≤ es.length) (hn3 : es.length ≤ 300) :
    Calls Try.prog 57 #[v, .int .i64 q] w fun r w' => r = .returned (.bool (openB (stkN es q))) ∧ Below w.heap.size w w' := by
  obtain ⟨avs, ⟨a, cap, rfl, -⟩, -⟩ := id hE.f.r
  obtain ⟨ad, cp, hcv, hc1, hc2⟩ := hE.f.c
  have hcp : cp = cap := by injection hcv with h1 h2 h3; exact h3.symm
  subst hcp
  clear hcv
  unfold maxLen at hc2
  obtain ⟨nn, hnn⟩ : ∃ n, es.length = n := ⟨_, rfl⟩
  have HNN := Lib.hid hnn
  have HE := Lib.hid hE
  rw [hnn] at hc1 hq hn3 HE ⊢
  clear hE hnn
  go_enter Try.func57, Try.ntmps57
  go_wp2_with fail
  go_loopw [5, 13] (fun o i wr => ∃ (k n : Nat) (oa : Option Addr) (oc : Nat), i = .int .i64 k ∧ o = .slice oa n oc ∧ k ≤ q ∧ (stkN es k).length = n ∧ OwnN w.heap.size wr (.slice oa n oc) (stkN es k) ∧ Below w.heap.size w wr) (fun _ i _ => q - (intOf i).toNat)
  case atStart => exact ⟨0, 0, none, 0, rfl, rfl, by omega, rfl, OwnN.nil _ _, Below.refl _ _⟩
  case round =>
    obtain ⟨k, n, oa, oc, rfl, rfl, hk, hnl, hown, hb⟩ := hrel
    have hlk := stkN_len es k
    rw [hnl] at hlk
    by_cases hlt : k < q
    · have hd := decide_eq_true (show (k : Int) < (q : Int) by omega)
      obtain ⟨x, hx⟩ : ∃ x, es[k]? = some x := ⟨_, List.getElem?_eq_getElem (by rw [HNN.out]; omega)⟩
      obtain ⟨b, off, cap', av, hv, hbB, c0, c1, c2, c3, c4, hav⟩ := HE.out.f.r.get hb HE.out.f.hB k x hx
      rw [HNN.out] at hv
      cases hv
      obtain ⟨aa, ac, rfl, -⟩ := hav
      have hsn := stkN_snoc hx
      obtain ⟨xk, ⟨n1, n2⟩, xa, xt⟩ := x
      simp only at c0 c1 c2 c3 c4
      have hX := RowAt.new wr #[.int .i8 xk, .string n1, .string n2, .slice aa xa.length ac, .string xt] 30
      have hba := (Below.refl wr.heap.size wr).alloc (Nat.le_refl _) (.cells #[.int .i8 xk, .string n1, .string n2, .slice aa xa.length ac, .string xt] 30)
      have hown1 := hown.below hba
      have hb1 := bt hb hba
      obtain ⟨S, hS⟩ : ∃ S, stkN es k = S := ⟨_, rfl⟩
      rw [hS] at hsn hnl hown1
      have HSN := Lib.hid hsn
      have HNL := Lib.hid hnl
      obtain ⟨m5, hm5⟩ : ∃ m, xa.length = m := ⟨_, rfl⟩
      rw [hm5] at hX hba hown1 hb1 c3
      clear hS hsn hnl hown hx hb hba hm5
      by_cases hk0 : xk = 0
      · subst hk0
        obtain ⟨a5, c5, w5, hr5, O5, hb5, hkp⟩ := hown1.app1k (n1, n2) hb1.size (by rw [HNL.out]; omega)
        rw [HNL.out] at hr5 O5
        simp only [World.size_alloc] at hr5
        have hX5 := hkp _ _ _ (by decide) hX
        have x0 : w5.cell? ⟨wr.heap.size, 0, none⟩ = some (.int .i8 0) := hX5.blk.cell 0 rfl
        have hb6 := hb1.trans hb5
        have HR := Lib.hid hr5
        have HO := Lib.hid O5
        clear hr5 hown1 hX hb1 hb5 hkp hX5 O5
        go_wp2_with (at_builtin; refine wpList_append_run rfl _ _ _ _ rfl _ _ rfl rfl _ _ HR.out ?_)
        refine ⟨⟨k + 1, n + 1, a5, c5, by go_num, rfl, by omega, ?_, ?_, hb6⟩, by simp [intOf]; omega⟩
        · rw [HSN.out, show stkS S ⟨0, (n1, n2), xa, xt⟩ = S ++ [(n1, n2)] from rfl, List.length_append, HNL.out]; rfl
        · rw [HSN.out]; exact HO.out
      · have q0 : (xk == 0) = false := by simpa using hk0
        by_cases hk1 : xk = 1
        · subst hk1
          have hst : stkS S ⟨1, (n1, n2), xa, xt⟩ = S.dropLast := rfl
          by_cases hn0 : 0 < n
          · have e0 := decide_eq_true (show (0 : Int) < (n : Int) by omega)
            obtain ⟨g, rfl⟩ := hown1.addr (by rw [HNL.out]; exact hn0)
            obtain ⟨hcut, hnc⟩ := hown1.cut HNL.out
            have q3 : ((n : Int) - 1) = ((n - 1 : Nat) : Int) := by omega
            have HST := Lib.hid hst
            have HCUT := Lib.hid hcut
            have q4 : n - 1 ≤ oc := by omega
            clear hst hown1 hX hcut hk0
            go_wp2_with fail
            refine ⟨⟨k + 1, n - 1, _, oc, by go_num, rfl, by omega, ?_, ?_, hb1⟩, by simp [intOf]; omega⟩
            · rw [HSN.out, HST.out, List.length_dropLast, HNL.out]
            · rw [HSN.out, HST.out]; exact HCUT.out
          · have e0 := decide_eq_false (show ¬ (0 : Int) < (n : Int) by omega)
            obtain rfl : n = 0 := by omega
            have hS0 : S = [] := List.eq_nil_of_length_eq_zero HNL.out
            subst hS0
            have HST := Lib.hid hst
            have HO := Lib.hid hown1
            clear hst hown1 hX hk0
            go_wp2_with fail
            refine ⟨⟨k + 1, 0, oa, oc, by go_num, rfl, by omega, ?_, ?_, hb1⟩, by simp [intOf]; omega⟩
            · rw [HSN.out, HST.out]; rfl
            · rw [HSN.out, HST.out]; exact HO.out
        · have q1 : (xk == 1) = false := by simpa using hk1
          have hst : stkS S ⟨xk, (n1, n2), xa, xt⟩ = S := by unfold stkS; rw [if_neg hk0, if_neg hk1]
          have HST := Lib.hid hst
          have HO := Lib.hid hown1
          clear hst hown1 hX hk0 hk1
          go_wp2_with fail
          refine ⟨⟨k + 1, n, oa, oc, by go_num, rfl, by omega, ?_, ?_, hb1⟩, by simp [intOf]; omega⟩
          · rw [HSN.out, HST.out, HNL.out]
          · rw [HSN.out, HST.out]; exact HO.out
    · have hd := decide_eq_false (show ¬ (k : Int) < (q : Int) by omega)
      obtain rfl : k = q := by omega
      obtain ⟨S, hS⟩ : ∃ S, stkN es k = S := ⟨_, rfl⟩
      rw [hS] at hown hnl
      have HSS := Lib.hid hS
      have HNL := Lib.hid hnl
      clear hS hnl
      by_cases hn0 : 0 < n
      · obtain ⟨g, rfl⟩ := hown.addr (by rw [HNL.out]; exact hn0)
        obtain ⟨z, hz⟩ : ∃ z, S[n - 1]? = some z := ⟨_, List.getElem?_eq_getElem (by rw [HNL.out]; omega)⟩
        have hlast : S.getLast? = some z := by rw [List.getLast?_eq_getElem?, HNL.out]; exact hz
        have hns := hown.reads
        obtain ⟨qb, qo, hqe, hqb, d0, d1⟩ := NsR.at_ hns hz (Below.refl wr.heap.size wr) (Nat.le_refl _)
        cases hqe
        have q3 : ((n : Int) - 1) = ((n - 1 : Nat) : Int) := by omega
        have e0 : ((n : Int) == 0) = false := by simp; omega
        have hop : openB S = (opB z && decide (n ≤ 3)) := by unfold openB; rw [hlast]; simp only; rw [HNL.out]
        have HOP := Lib.hid (show openB (stkN es k) = (opB z && decide (n ≤ 3)) by rw [HSS.out]; exact hop)
        obtain ⟨z1, z2⟩ := z
        simp only at d0 d1
        rw [Nat.zero_add] at d1
        unfold opB at HOP
        simp only at HOP
        have hnc : n ≤ oc := (hown.cut HNL.out).2
        clear hown hns hz hlast hop d0
        by_cases h3 : n ≤ 3
        · have e3 := decide_eq_true (show (n : Int) ≤ 3 by omega)
          rw [decide_eq_true h3, Bool.and_true] at HOP
          cases g1 : (z2.toList == [114, 115, 115])
          · rw [g1] at HOP
            cases g2 : (z2.toList == [82, 68, 70])
            · rw [g2] at HOP
              cases g3 : (z2.toList == [99, 104, 97, 110, 110, 101, 108])
              · rw [g3] at HOP
                cases g4 : (z2.toList == [105, 116, 101, 109])
                all_goals
                  rw [g4] at HOP
                  go_wp2_with fail
                  go_ret
                  exact ⟨by rw [HOP.out]; rfl, hb⟩
              · rw [g3] at HOP
                go_wp2_with fail
                go_ret
                exact ⟨by rw [HOP.out]; rfl, hb⟩
            · rw [g2] at HOP
              go_wp2_with fail
              go_ret
              exact ⟨by rw [HOP.out]; rfl, hb⟩
          · rw [g1] at HOP
            go_wp2_with fail
            go_ret
            exact ⟨by rw [HOP.out]; rfl, hb⟩
        · have e3 := decide_eq_false (show ¬ (n : Int) ≤ 3 by omega)
          rw [decide_eq_false h3, Bool.and_false] at HOP
          cases g1 : (z2.toList == [114, 115, 115])
          · cases g2 : (z2.toList == [82, 68, 70])
            · cases g3 : (z2.toList == [99, 104, 97, 110, 110, 101, 108])
              · cases g4 : (z2.toList == [105, 116, 101, 109])
                all_goals
                  go_wp2_with fail
                  go_ret
                  exact ⟨by rw [HOP.out]; rfl, hb⟩
              · go_wp2_with fail
                go_ret
                exact ⟨by rw [HOP.out]; rfl, hb⟩
            · go_wp2_with fail
              go_ret
              exact ⟨by rw [HOP.out]; rfl, hb⟩
          · go_wp2_with fail
            go_ret
            exact ⟨by rw [HOP.out]; rfl, hb⟩
      · obtain rfl : n = 0 := by omega
        have hS0 : S = [] := List.eq_nil_of_length_eq_zero HNL.out
        have HOP := Lib.hid (show openB (stkN es k) = false by rw [HSS.out, hS0]; rfl)
        clear hown
        go_wp2_with fail
        go_ret
        exact ⟨by rw [HOP.out]; rfl, hb⟩
end Go.Proofs.Yteefopeclfojiaa
/- 
  Layer 23: the law RssOthers.
 -/
namespace Go.Proofs.Yteefopeclfojiaa
open Go.RowKit Go.Sort
attribute [local go_sem] Oper.semAt_some
attribute [local go_sem ↓] app_veil
/-- the element that is put in. -/
def elO (s : ByteArray) : KidT := (othN, [], if emB s = true then .nil else .txt s .nil)
theorem elO_t {s : ByteArray} (h : emB s = true) : flT (elO s) = [evS othN [], evE othN] := by unfold elO flT; rw [if_pos h]; rfl
theorem elO_f {s : ByteArray} (h : emB s = false) : flT (elO s) = [evS othN [], evT s, evE othN] := by unfold elO flT; rw [if_neg (by rw [h]; decide)]; rfl
theorem elO_wf (s : ByteArray) : WfT (elO s) := by
  refine ⟨rfl, show emB othN.2 = false by decide +kernel, ?_⟩
  unfold elO
  simp only
  cases h : emB s with
  | true => rw [if_pos rfl]; trivial
  | false => rw [if_neg Bool.false_ne_true]; exact ⟨rfl, h, trivial⟩
theorem elO_ge {s : ByteArray} (hs : s.size ≤ 300) : ∀ e ∈ flT (elO s), GE e := by
  have h1 : GE (evS othN []) := ⟨by decide +kernel, by decide, by decide +kernel, by decide +kernel, fun a h => by cases h⟩
  have h2 : GE (evE othN) := ⟨by decide +kernel, by decide, by decide +kernel, by decide +kernel, fun a h => by cases h⟩
  have h3 : GE (evT s) := ⟨by show s.size ≤ 2000; omega, Nat.zero_le _, Nat.zero_le _, Nat.zero_le _, fun a h => by cases h⟩
  intro e he
  cases h : emB s with
  | true =>
    rw [elO_t h] at he
    simp only [List.mem_cons, List.not_mem_nil, or_false] at he
    rcases he with rfl | rfl
    · exact h1
    · exact h2
  | false =>
    rw [elO_f h] at he
    simp only [List.mem_cons, List.not_mem_nil, or_false] at he
    rcases he with rfl | rfl | rfl
    · exact h1
    · exact h3
    · exact h2
/-- events with an element more. -/
def insE (es : List Evt) (q : Nat) (s : ByteArray) : List Evt := es.take q ++ flT (elO s) ++ es.drop q
theorem insE_ge {es : List Evt} {q : Nat} {s : ByteArray} (h : ∀ e ∈ es, GE e) (hs : s.size ≤ 300) : ∀ e ∈ insE es q s, GE e := by
  intro e he
  unfold insE at he
  rcases List.mem_append.1 he with he | he
  · rcases List.mem_append.1 he with he | he
    · exact h e (List.mem_of_mem_take he)
    · exact elO_ge hs e he
  · exact h e (List.mem_of_mem_drop he)
theorem insE_len (es : List Evt) (q : Nat) (s : ByteArray) : (insE es q s).length ≤ es.length + 3 := by
  have h0 : (flT (elO s)).length ≤ 3 := by
    cases h : emB s with
    | true => rw [elO_t h]; simp
    | false => rw [elO_f h]; simp
  have h3 : (es.take q).length + (es.drop q).length = es.length := by rw [← List.length_append, List.take_append_drop]
  unfold insE
  rw [List.length_append, List.length_append]
  omega
theorem rev_ge {es : List Evt} {v : Value} {w : World} (h : ∀ e ∈ es, GE e) (hl : es.length ≤ 400) (hr : EvsR w.heap.size w v es) (hc : CapR v es.length) : REv w.heap.size es v w := by
  have h1 := txs_le es h
  exact ⟨⟨hr, Nat.le_refl _, by omega, fun e he => by have := (h e he).at_; omega, by omega, hc⟩, by omega, fun e he a ha => Nat.le_trans ((h e he).av a ha) (by decide)⟩
theorem oth_plain {es : List Evt} {g : Gr} (hG : growP es = some g) {q : Nat} (hq : 1 ≤ q) (hq2 : q < es.length) (s : ByteArray) (ho : openB (stkN es q) = true) :
    feedR (insE es q s) = feedR es ∧ kindP (insE es q s) = kindP es ∧ (growP (insE es q s)).isSome = true := by
  obtain ⟨⟨n, a, F⟩, hes, hwf, hT⟩ := whole_tree hG
  obtain ⟨h1, h2⟩ := feed_T hG hT hwf
  obtain ⟨p, rfl⟩ : ∃ p, q = p + 1 := ⟨q - 1, by omega⟩
  have hp : p ≤ F.sz := by
    rw [hes] at hq2
    unfold flT at hq2
    simp [fl_len] at hq2
    omega
  have hm : insE es (p + 1) s = flT (n, a, insF (elO s) F p) := by
    unfold insE
    rw [hes]
    show _ = evS n a :: ((insF (elO s) F p).fl ++ [evE n])
    rw [ins_fl _ F p hp]
    show (evS n a :: (F.fl ++ [evE n])).take (p + 1) ++ flT (elO s) ++ (evS n a :: (F.fl ++ [evE n])).drop (p + 1) = _
    rw [List.take_succ_cons, List.drop_succ_cons, List.take_append_of_le_length (by rw [fl_len]; exact hp), List.drop_append_of_le_length (by rw [fl_len]; exact hp)]
    simp
  have hw : WfT (n, a, insF (elO s) F p) := ⟨hwf.1, hwf.2.1, ins_wf (elO_wf s) F p false hwf.2.2⟩
  have hst : stkN es (p + 1) = n :: pathF F p := by
    unfold stkN
    rw [hes]
    show ((evS n a :: (F.fl ++ [evE n])).take (p + 1)).foldl stkS [] = _
    rw [List.take_succ_cons, List.foldl_cons, List.take_append_of_le_length (by rw [fl_len]; exact hp), stk_take F p _ hp]
    rfl
  have hpath : pathF F p = [] ∨ (∃ c, pathF F p = [c]) ∨ ∃ c e, pathF F p = [c, e] ∧ opB e = true := by
    rw [hst] at ho
    generalize pathF F p = P at ho ⊢
    unfold openB at ho
    match P, ho with
    | [], _ => exact .inl rfl
    | [c], _ => exact .inr (.inl ⟨c, rfl⟩)
    | [c, e], ho =>
      refine .inr (.inr ⟨c, e, rfl, ?_⟩)
      simp at ho
      exact ho
    | c :: d :: e :: P, ho =>
      exfalso
      cases hl : (n :: c :: d :: e :: P).getLast? with
      | none => rw [hl] at ho; cases ho
      | some z =>
        rw [hl] at ho
        simp at ho
  obtain ⟨k1, k2⟩ := feed_flT23 _ hw
  obtain ⟨g', hg', -⟩ := tree_whole _ hw
  rw [hm]
  refine ⟨?_, ?_, by rw [hg']; rfl⟩
  · rw [k1, h1]
    exact feed_ins (show (elO s).1 = othN from rfl) hpath
  · rw [k2, h2]
/-- a place among events. -/
theorem rem_at (i : Int) (m : Nat) (hm : 0 < m) (hl : m ≤ 300) : ∃ j : Nat, j < m ∧ (wrap64 (i.tmod (m : Int) + (m : Int))).tmod (m : Int) = (j : Int) := by
  have h0 : (0 : Int) < (m : Int) := by omega
  have h1 := Int.tmod_lt_of_pos i h0
  have h2 := Int.lt_tmod_of_pos i h0
  obtain ⟨x, hx⟩ : ∃ x, i.tmod (m : Int) + (m : Int) = x := ⟨_, rfl⟩
  have h3 : 0 ≤ x := by omega
  have h4 : x < 600 := by omega
  have h5 : wrap64 x = x := by unfold wrap64; omega
  rw [hx, h5]
  have h6 := Int.tmod_lt_of_pos x h0
  have h7 : 0 ≤ x.tmod (m : Int) := Int.tmod_nonneg _ h3
  exact ⟨(x.tmod (m : Int)).toNat, by omega, by omega⟩
set_option maxRecDepth 100000 in
set_option maxHeartbeats 16000000 in
theorem law_RssOthers (v : Value) (es : List Evt) (i : Int) (s : ByteArray) (w : World) (hl : EvsIn w v es) :
    Calls Try.prog 12 #[v, .int .i64 i, .string s] w fun r w' => r = .returned (.bool true) ∧ Below w.heap.size w w' := by
  obtain ⟨avs, ⟨a, cap, rfl, -⟩, -⟩ := id hl.r
  have G1 := Lib.hid (ref23_Great w.heap.size es _ w hl.r (Nat.le_refl _) hl.at_.n hl.small)
  have HW := Lib.hid law23_wakes
  have HL := Lib.hid hl
  obtain ⟨nn, hnn⟩ : ∃ n, es.length = n := ⟨_, rfl⟩
  rw [hnn] at HL G1 ⊢
  have HNN := Lib.hid hnn
  clear hl hnn
  have hb0 := Below.refl w.heap.size w
  go_enter Try.func12, Try.ntmps12
  go_wp2_with fail
  refine (G1.out).mono ?_
  rintro r w1 ⟨b1, rfl, hg1, rfl⟩
  cases b1 with
  | true =>
    clear hg1
    go_wp2_with fail
    refine (HW.out _).mono ?_
    rintro r w99 ⟨rfl, hb99⟩
    go_wp2_with fail
    go_ret
    exact ⟨rfl, bt hb0 hb99⟩
  | false =>
    have HE := Lib.hid ((hg1 rfl).rev HL.out.r HL.out.cap)
    have HGE := Lib.hid ((hg1 rfl).ev)
    have hn3 : nn ≤ 300 := by rw [← HNN.out]; exact (hg1 rfl).len
    clear hg1 G1
    by_cases h2 : nn < 2
    · have hd := decide_eq_true (show (nn : Int) < 2 by omega)
      go_wp2_with fail
      refine (HW.out _).mono ?_
      rintro r w99 ⟨rfl, hb99⟩
      go_wp2_with fail
      go_ret
      exact ⟨rfl, bt hb0 hb99⟩
    · have hd := decide_eq_false (show ¬ (nn : Int) < 2 by omega)
      by_cases h3 : 300 < s.size
      · have hd2 := decide_eq_true (show (300 : Int) < (s.size : Int) by omega)
        go_wp2_with fail
        refine (HW.out _).mono ?_
        rintro r w99 ⟨rfl, hb99⟩
        go_wp2_with fail
        go_ret
        exact ⟨rfl, bt hb0 hb99⟩
      · have hd2 := decide_eq_false (show ¬ (300 : Int) < (s.size : Int) by omega)
        have hP1 := rss_Parse w.heap.size es _ w HE.out
        unfold PaC at hP1
        by_cases hk : kindP es = 0
        · rw [if_pos hk] at hP1
          have HP1 := Lib.hid hP1
          clear hk hP1
          go_wp2_with fail
          refine (HP1.out).mono ?_
          rintro r w2 ⟨u1, rfl, ⟨x1, rfl, hx1⟩, hb2⟩
          obtain ⟨R, hR⟩ : ∃ R, feedR es = R := ⟨_, rfl⟩
          rw [hR] at hx1 ⊢
          obtain ⟨pa, ea, ca, rfl⟩ := hx1.form
          have hb3 := hb2.alloc hb2.size (.cells #[.int .i8 R.fmt, .string R.head.id, .string R.head.title, .string R.head.link, .string R.head.author, .string R.head.content, .string R.head.date, .int .i8 R.head.kind, .slice pa ea ca] 50)
          unfold rawC
          go_wp2_with fail
          refine (HW.out _).mono ?_
          rintro r w99 ⟨rfl, hb99⟩
          go_wp2_with fail
          go_ret
          exact ⟨rfl, bt hb3 hb99⟩
        · rw [if_neg hk] at hP1
          have hgs : ∃ g, growP es = some g := by
            cases hG : growP es with
            | none => exact absurd (kindP_none hG) hk
            | some g => exact ⟨g, rfl⟩
          obtain ⟨g, hG⟩ := hgs
          have HG := Lib.hid hG
          have HKN := Lib.hid hk
          have hRL : (feedR es).items.length ≤ 1000000 := by
            have h1 := feedR_cnt es
            have h2 := cntI_le es
            have h3 := HE.out.f.n
            rw [HNN.out] at h2 h3
            omega
          obtain ⟨R, hR⟩ : ∃ R, feedR es = R := ⟨_, rfl⟩
          rw [hR] at hP1 hRL
          have HRR := Lib.hid hR
          have HP1 := Lib.hid hP1
          have HSM := Lib.hid (fun (x y : Value) (u : World) (hx : CReads u.heap.size u x R.items.length (itsC R.items)) (hy : CReads u.heap.size u y R.items.length (itsC R.items)) => ref23_SameRaw R x y u hx hy hRL)
          obtain ⟨m, hm⟩ : ∃ m, nn = m + 1 := ⟨nn - 1, by omega⟩
          obtain ⟨j, hjm, hjx⟩ := rem_at i m (by omega) (by omega)
          have HJX := Lib.hid hjx
          have HMM := Lib.hid hm
          clear hk hP1 hG hR hRL hjx hm
          go_wp2_with fail
          refine (HP1.out).mono ?_
          rintro r w2 ⟨u1, rfl, ⟨x1, rfl, hx1⟩, hb2⟩
          obtain ⟨pa, ea, ca, rfl⟩ := hx1.form
          have CX := CReads.of_own hx1
          have B1 := RowAt.new w2 #[.int .i8 R.fmt, .string R.head.id, .string R.head.title, .string R.head.link, .string R.head.author, .string R.head.content, .string R.head.date, .int .i8 R.head.kind, .slice pa ea ca] 50
          have hb3 := hb2.alloc hb2.size (.cells #[.int .i8 R.fmt, .string R.head.id, .string R.head.title, .string R.head.link, .string R.head.author, .string R.head.content, .string R.head.date, .int .i8 R.head.kind, .slice pa ea ca] 50)
          have hba : Below w2.heap.size w2 (w2.alloc (.cells #[.int .i8 R.fmt, .string R.head.id, .string R.head.title, .string R.head.link, .string R.head.author, .string R.head.content, .string R.head.date, .int .i8 R.head.kind, .slice pa ea ca] 50)) := (Below.refl _ w2).alloc (Nat.le_refl _) _
          replace CX := (CX.below hba (Nat.le_refl _)).mono hba.size
          unfold rawC
          have HB1 := Lib.hid B1
          have HCX := Lib.hid CX
          have HB3 := Lib.hid hb3
          clear B1 CX hx1 hba hb2 hb3
          have hq1 : (nn : Int) - 1 = (m : Int) := by rw [HMM.out]; omega
          have hjx := HJX.out
          have hz0 : ((m : Int) == 0) = false := by simp; omega
          go_upto_region 8 with fail
          clear hjx HJX hq1 hz0
          generalize w2.alloc (.cells #[.int .i8 R.fmt, .string R.head.id, .string R.head.title, .string R.head.link, .string R.head.author, .string R.head.content, .string R.head.date, .int .i8 R.head.kind, .slice pa ea ca] 50) = w3 at HB1 HCX HB3 ⊢
          generalize w2.heap.size = g1 at HB1 ⊢
          obtain ⟨q, hqj⟩ : ∃ q, q = j + 1 := ⟨_, rfl⟩
          rw [show 1 + (j : Int) = (q : Int) by omega]
          have hq3 : (q : Int) - 1 = (j : Int) := by omega
          have hqn : q < nn := by rw [HMM.out]; omega
          have hjn : j < nn := by omega
          have hq1 : 1 ≤ q := by omega
          obtain ⟨y1, hy1⟩ : ∃ x, es[j]? = some x := ⟨_, List.getElem?_eq_getElem (by rw [HNN.out]; exact hjn)⟩
          obtain ⟨y2, hy2⟩ : ∃ x, es[q]? = some x := ⟨_, List.getElem?_eq_getElem (by rw [HNN.out]; exact hqn)⟩
          obtain ⟨b, off, cap', av, hv, hbB, c0, -⟩ := HE.out.f.r.get HB3.out (Nat.le_refl _) j y1 hy1
          rw [HNN.out] at hv
          cases hv
          obtain ⟨b', off', cap', av', hv, -, d0, -⟩ := HE.out.f.r.get HB3.out (Nat.le_refl _) q y2 hy2
          rw [HNN.out] at hv
          cases hv
          clear hy1 hy2 hqj HMM
          by_cases k1 : y1.k = 2
          · have e1 : (y1.k == 2) = true := by simp [k1]
            go_wp2_with fail
            refine (HW.out _).mono ?_
            rintro r w99 ⟨rfl, hb99⟩
            go_wp2_with fail
            go_ret
            exact ⟨rfl, bt HB3.out hb99⟩
          · have e1 : (y1.k == 2) = false := by simpa using k1
            by_cases k2 : y2.k = 2
            · have e2 : (y2.k == 2) = true := by simp [k2]
              go_wp2_with fail
              refine (HW.out _).mono ?_
              rintro r w99 ⟨rfl, hb99⟩
              go_wp2_with fail
              go_ret
              exact ⟨rfl, bt HB3.out hb99⟩
            · have e2 : (y2.k == 2) = false := by simpa using k2
              have HO := Lib.hid (law23_open w.heap.size es _ q w3 (HE.out.below HB3.out) (by rw [HNN.out]; omega) (by rw [HNN.out]; exact hn3))
              clear k1 k2
              go_wp2_with fail
              clear c0 d0 e1 e2
              refine (HO.out).mono ?_
              rintro r w4 ⟨rfl, hb34⟩
              have HB4 := Lib.hid (bt HB3.out hb34)
              replace HB1 := Lib.hid (HB1.out.below hb34 HB1.out.lt)
              replace HCX := Lib.hid ((HCX.out.below hb34 (Nat.le_refl _)).mono hb34.size)
              clear HO hb34 HB3
              cases ho : openB (stkN es q) with
              | false =>
                go_wp2_with fail
                refine (HW.out _).mono ?_
                rintro r w99 ⟨rfl, hb99⟩
                go_wp2_with fail
                go_ret
                exact ⟨rfl, bt HB4.out hb99⟩
              | true =>
                obtain ⟨f1, f2, f3⟩ := oth_plain HG.out hq1 (by rw [HNN.out]; exact hqn) s ho
                have HKM := Lib.hid (show kindP (insE es q s) ≠ 0 by rw [f2]; exact HKN.out)
                have HFM := Lib.hid (show feedR (insE es q s) = R by rw [f1]; exact HRR.out)
                have HGM := Lib.hid f3
                clear ho f1 f2 f3
                have bN := RowAt.new w4 #[.string ⟨#[117, 114, 110, 58, 111, 116, 104, 101, 114]⟩, .string ⟨#[116, 105, 116, 108, 101]⟩] 24
                have h45 := (Below.refl w4.heap.size w4).alloc (Nat.le_refl _) (.cells #[.string ⟨#[117, 114, 110, 58, 111, 116, 104, 101, 114]⟩, .string ⟨#[116, 105, 116, 108, 101]⟩] 24)
                have hb5 := bt HB4.out h45
                go_upto_region 11 with fail
                generalize w4.alloc (.cells #[.string ⟨#[117, 114, 110, 58, 111, 116, 104, 101, 114]⟩, .string ⟨#[116, 105, 116, 108, 101]⟩] 24) = w5 at bN h45 hb5 ⊢
                replace HB1 := Lib.hid (HB1.out.below h45 HB1.out.lt)
                replace HCX := Lib.hid ((HCX.out.below h45 (Nat.le_refl _)).mono h45.size)
                generalize w4.heap.size = nb at bN ⊢
                clear h45 HB4
                have n0 : w5.cell? ⟨nb, 0, none⟩ = some (.string ⟨#[117, 114, 110, 58, 111, 116, 104, 101, 114]⟩) := bN.blk.cell 0 rfl
                have n1 : w5.cell? ⟨nb, 1, none⟩ = some (.string ⟨#[116, 105, 116, 108, 101]⟩) := bN.blk.cell 1 rfl
                have O1 : OwnE w5.heap.size w5.heap.size (w5.alloc (.cells #[.int .i8 0, .string ⟨#[117, 114, 110, 58, 111, 116, 104, 101, 114]⟩, .string ⟨#[116, 105, 116, 108, 101]⟩, .slice none 0 0, .string ⟨#[]⟩] 30)) (.slice (some ⟨w5.heap.size, 0, none⟩) 1 1) [evS othN []] := OwnE.lit (es := [evS othN []]) [.slice none 0 0] _ rfl (show AtsR _ _ [evS othN []] [.slice none 0 0] from ⟨nilC _ _, trivial⟩) (Nat.le_refl _) 1 rfl (by decide)
                have h56 := (Below.refl w5.heap.size w5).alloc (Nat.le_refl _) (.cells #[.int .i8 0, .string ⟨#[117, 114, 110, 58, 111, 116, 104, 101, 114]⟩, .string ⟨#[116, 105, 116, 108, 101]⟩, .slice none 0 0, .string ⟨#[]⟩] 30)
                go_upto_region 12 with fail
                generalize w5.alloc (.cells #[.int .i8 0, .string ⟨#[117, 114, 110, 58, 111, 116, 104, 101, 114]⟩, .string ⟨#[116, 105, 116, 108, 101]⟩, .slice none 0 0, .string ⟨#[]⟩] 30) = w6 at O1 h56 ⊢
                clear n0 n1
                have hbn := bN.lt
                have bN6 := bN.below h56 hbn
                obtain ⟨xb, hxb⟩ : ∃ x, w5.heap.size = x := ⟨_, rfl⟩
                have HXB := Lib.hid hxb
                have hs6 : w5.heap.size ≤ w6.heap.size := h56.size
                have hws : w.heap.size ≤ w5.heap.size := hb5.size
                rw [hxb] at O1 h56 hbn hs6 hws ⊢
                have HB5 := Lib.hid hb5
                clear hb5 bN hxb
                cases hem : emB s with
                | true =>
                  have e2 : s.toList = [] := by unfold emB at hem; simpa using hem
                  have e3 : (!s.toList.isEmpty) = false := by rw [e2]; rfl
                  have HEL := Lib.hid (elO_t hem)
                  clear hem
                  obtain ⟨v8, w8, hr8, O8, hb68⟩ := O1.app1 (evE othN) (.slice none 0 0) (nilC _ _) (Nat.le_refl _) hs6 (by simp)
                  have h58 := (show Below xb w5 w6 from h56).trans hb68
                  obtain ⟨a8, m8, c8, hv8⟩ : ∃ a l c, v8 = .slice a l c := by obtain ⟨avs, h1, -⟩ := O8; exact own_slice h1
                  subst hv8
                  have HR8 := Lib.hid hr8
                  have hX : OwnE xb xb w8 (.slice a8 m8 c8) (flT (elO s)) := by rw [HEL.out]; exact O8
                  have n0 : w6.cell? ⟨nb, 0, none⟩ = some (.string ⟨#[117, 114, 110, 58, 111, 116, 104, 101, 114]⟩) := bN6.blk.cell 0 rfl
                  have n1 : w6.cell? ⟨nb, 1, none⟩ = some (.string ⟨#[116, 105, 116, 108, 101]⟩) := bN6.blk.cell 1 rfl
                  have hs68 : w6.heap.size ≤ w8.heap.size := hb68.size
                  clear hr8 O8 hb68
                  go_upto_region 14 with fail
                  go_upto_region 15 with (at_builtin; refine wpList_append_run rfl _ _ _ _ rfl _ _ rfl rfl _ _ HR8.out ?_; clear HR8)
                  clear n0 n1
                  have hbW := HB5.out.trans ((show Below xb w5 w8 from h58).mono hws)
                  have hB1 := HB1.out.below h58 (by have := HB1.out.lt; have := HXB.out; omega)
                  have hCX := (HCX.out.below h58 (by rw [HXB.out]; exact Nat.le_refl _)).mono (by rw [HXB.out]; exact Nat.le_trans hs6 hs68)
                  have hD : Below w8.heap.size w8 w8.drew := (Below.refl _ w8).drew
                  have hbD : Below w.heap.size w w8.drew := hbW.drew
                  have eD := (HE.out.below hbD).f.r
                  have xD := (hX.below hD (Nat.le_refl _) (Nat.le_trans (Nat.le_refl _) (Nat.le_trans hs6 hs68))).reads (Nat.le_trans hs6 hs68)
                  obtain ⟨ad, cp, hcv, hc1, hc2⟩ := HE.out.f.c
                  have hcp : cp = cap := by injection hcv with h1 h2 h3; exact h3.symm
                  rw [hcp] at hc1 hc2
                  rw [HNN.out] at hc1
                  unfold maxLen at hc2
                  clear hcv hcp
                  have hqc : q ≤ cap := by omega
                  have hXl : (flT (elO s)).length ≤ 3 := by rw [HEL.out]; simp
                  have O4 : OwnE w8.drew.heap.size w8.drew.heap.size (w8.drew.alloc (.cells #[] 30)) (.slice (some ⟨w8.drew.heap.size, 0, none⟩) 0 0) [] := OwnE.lit (es := []) [] #[] rfl trivial (Nat.le_refl _) 0 rfl (by decide)
                  have hA : Below w8.drew.heap.size w8.drew (w8.drew.alloc (.cells #[] 30)) := (Below.refl _ w8.drew).alloc (Nat.le_refl _) _
                  have hs1 := eD.sub (n := nn) 0 q cap (by rw [HNN.out]; omega)
                  rw [List.drop_zero, Nat.zero_mul, Nat.add_zero] at hs1
                  have htk : (es.take q).length = q := by rw [List.length_take, HNN.out]; omega
                  obtain ⟨v5, w10, hr5, O5, hb10⟩ := O4.apps ((hs1.mono hbD.size).below hA (Nat.le_refl _)) (Nat.le_refl _) hA.size (by rw [htk]; simp; omega)
                  obtain ⟨a5, m5, c5, hv5⟩ : ∃ a l c, v5 = .slice a l c := by obtain ⟨avs, h1, -⟩ := O5; exact own_slice h1
                  subst hv5
                  have hD10 := hA.trans hb10
                  obtain ⟨v6, w11, hr6, O6, hb11⟩ := O5.apps (xD.below hD10 (Nat.le_refl _)) (Nat.le_refl _) hD10.size (by rw [List.length_append, htk]; simp; omega)
                  obtain ⟨a6, m6, c6, hv6⟩ : ∃ a l c, v6 = .slice a l c := by obtain ⟨avs, h1, -⟩ := O6; exact own_slice h1
                  subst hv6
                  have hD11 := hD10.trans hb11
                  have hs2 := eD.sub (n := nn) q (nn - q) (cap - q) (by rw [HNN.out]; omega)
                  have hdl : (es.drop q).length = nn - q := by rw [List.length_drop, HNN.out]
                  rw [List.take_of_length_le (by rw [hdl]; exact Nat.le_refl _)] at hs2
                  obtain ⟨v7, w12, hr7, O7, hb12⟩ := O6.apps ((hs2.mono hbD.size).below hD11 (Nat.le_refl _)) (Nat.le_refl _) hD11.size (by rw [List.length_append, List.length_append, htk, hdl]; simp; omega)
                  obtain ⟨a7, m7, c7, hv7⟩ : ∃ a l c, v7 = .slice a l c := by obtain ⟨avs, h1, -⟩ := O7; exact own_slice h1
                  subst hv7
                  have hD12 := hD11.trans hb12
                  have hM : [] ++ es.take q ++ flT (elO s) ++ es.drop q = insE es q s := by unfold insE; rw [List.nil_append]
                  rw [hM] at O7
                  have hEM : REv w12.heap.size (insE es q s) (.slice a7 m7 c7) w12 := rev_ge (insE_ge HGE.out (by omega)) (by have := insE_len es q s; rw [HNN.out] at this; omega) (O7.reads hD12.size) O7.cap
                  have hWM := ref16_Whole w12.heap.size _ _ w12 hEM.f.r (Nat.le_refl _) (by have := hEM.f.n; omega) hEM.f.z2
                  rw [HGM.out] at hWM
                  have HWM := Lib.hid hWM
                  have HEM := Lib.hid hEM
                  have hr5' : Sem.run Try.prog (AppV #[22, 22] 22 #[.slice (some ⟨w8.heap.size, 0, none⟩) 0 0, .slice (some ⟨b, off, none⟩) q cap]) (w8.alloc (.cells #[] 30)).drew = .ok (.slice a5 m5 c5) w10 := hr5
                  have hr6' : Sem.run Try.prog (AppV #[22, 22] 22 #[.slice a5 m5 c5, .slice a8 m8 c8]) w10 = .ok (.slice a6 m6 c6) w11 := hr6
                  have hr7' : Sem.run Try.prog (AppV #[22, 22] 22 #[.slice a6 m6 c6, .slice (some ⟨b, off + q * 5, none⟩) (nn - q) (cap - q)]) w11 = .ok (.slice a7 m7 c7) w12 := hr7
                  have HB12 := Lib.hid (hbD.trans (hD12.mono hbD.size))
                  have h8c : Below w8.heap.size w8 w12 := hD.trans hD12
                  have HB1z := Lib.hid (hB1.below h8c hB1.lt)
                  have HCXz := Lib.hid ((hCX.below h8c (Nat.le_refl _)).mono h8c.size)
                  clear hr5 hr6 hr7 O4 O5 O6 O7 hA hs1 hs2 hD hbD eD xD hX hB1 hCX hb10 hb11 hb12 hD10 hD11 hD12 hEM hWM hM h8c hbW h58 HB1 HCX hXl htk hdl
                  refine (wpIn_wide (n := 6)).1 ?_
                  refine wpIn_region_T 11 (fun _ => True) (by kernel_rfl) (by decide) ?_
                  refine walkT_take (i := 1) (v := ?_) rfl (by kernel_rfl) (fun _ _ _ h => h) ⟨Or.inl ⟨by rfl, ?_⟩, fun _ => rfl⟩ trivial ?_
                  rotate_left
                  · intro u hu
                    go_simp
                    try rfl
                  simp only [Act.put]
                  refine walkT_take (i := 2) (v := ?_) rfl (by kernel_rfl) (fun _ _ _ h => h) ⟨Or.inl ⟨by rfl, ?_⟩, fun _ => rfl⟩ trivial ?_
                  rotate_left
                  · intro u hu
                    go_simp
                    try rfl
                  simp only [Act.put]
                  refine walkT_take (i := 3) (v := ?_) rfl (by kernel_rfl) (fun _ _ _ h => h) ⟨Or.inl ⟨by rfl, ?_⟩, fun _ => rfl⟩ trivial ?_
                  rotate_left
                  · intro u hu
                    go_simp
                    try rfl
                  simp only [Act.put]
                  refine walkT_take (i := 5) (v := ?_) rfl (by kernel_rfl) (fun _ _ _ h => h) ⟨Or.inl ⟨by rfl, ?_⟩, fun _ => rfl⟩ trivial ?_
                  rotate_left
                  · intro u hu
                    go_simp
                    try rfl
                  simp only [Act.put]
                  refine walkT_take (i := 7) (v := ?_) rfl (by kernel_rfl) (fun _ _ _ h => h) ⟨Or.inl ⟨by rfl, ?_⟩, fun _ => rfl⟩ trivial ?_
                  rotate_left
                  · intro u hu
                    go_simp
                    try rfl
                  simp only [Act.put]
                  refine walkT_take (i := 8) (v := ?_) rfl (by kernel_rfl) (fun _ _ _ h => h) ⟨Or.inl ⟨by rfl, ?_⟩, fun _ => rfl⟩ trivial ?_
                  rotate_left
                  · intro u hu
                    go_simp
                    try rfl
                  simp only [Act.put]
                  refine walkT_take (i := 9) (v := ?_) rfl (by kernel_rfl) (fun _ _ _ h => h) ⟨Or.inl ⟨by rfl, ?_⟩, fun _ => rfl⟩ trivial ?_
                  rotate_left
                  · intro u hu
                    go_simp
                    try rw [if_pos (show q ≤ nn by omega), if_neg (show ¬ cap = q by omega)]
                    try rfl
                  simp only [Act.put]
                  refine walkT_step (i := 0) rfl (by kernel_rfl) (fun K hK => ?_)
                  rw [if_pos (by rfl)]
                  go_simp
                  refine hK _ _ trivial ?_
                  clear hK K
                  refine walkT_step (i := 4) rfl (by kernel_rfl) (fun K hK => ?_)
                  rw [if_pos (by rfl)]
                  go_simp
                  refine hK _ _ trivial ?_
                  clear hK K
                  refine walkT_step (i := 6) rfl (by kernel_rfl) (fun K hK => ?_)
                  rw [if_pos (by rfl)]
                  go_simp
                  refine hK _ _ trivial ?_
                  clear hK K
                  refine walkT_step (i := 10) rfl (by kernel_rfl) (fun K hK => ?_)
                  rw [if_pos (by rfl)]
                  go_simp
                  refine hK _ _ trivial ?_
                  clear hK K
                  clear hr5' hr6' hr7'
                  refine walkT_tail (by kernel_rfl) ?_
                  simp only [List.drop_succ_cons, List.drop_zero]
                  gi_wp2_with fail
                  go_wp2_with fail
                  refine (HWM.out).mono ?_
                  rintro r w13 ⟨rfl, hb13⟩
                  have hEM := HEM.out.below hb13
                  have hPM := rss_Parse w12.heap.size _ _ w13 hEM
                  unfold PaC at hPM
                  rw [if_neg HKM.out, HFM.out] at hPM
                  have HPM := Lib.hid hPM
                  have hbW := bt HB12.out hb13
                  have B1 := HB1z.out.below hb13 HB1z.out.lt
                  have CX := (HCXz.out.below hb13 (Nat.le_refl _)).mono hb13.size
                  clear hb13 hEM hPM HWM HEM HB12 HB1z HCXz
                  go_wp2_with fail
                  refine (HPM.out).mono ?_
                  rintro r w14 ⟨u2, rfl, ⟨z2, rfl, hx2⟩, hb14⟩
                  replace B1 := B1.below hb14 B1.lt
                  replace CX := (CX.below hb14 (Nat.le_refl _)).mono hb14.size
                  replace hbW := bt hbW hb14
                  obtain ⟨pb, eb, cb, rfl⟩ := hx2.form
                  have CY := CReads.of_own hx2
                  have B2 := RowAt.new w14 #[.int .i8 R.fmt, .string R.head.id, .string R.head.title, .string R.head.link, .string R.head.author, .string R.head.content, .string R.head.date, .int .i8 R.head.kind, .slice pb eb cb] 50
                  replace B1 := B1.alloc (.cells #[.int .i8 R.fmt, .string R.head.id, .string R.head.title, .string R.head.link, .string R.head.author, .string R.head.content, .string R.head.date, .int .i8 R.head.kind, .slice pb eb cb] 50)
                  have hba : Below w14.heap.size w14 (w14.alloc (.cells #[.int .i8 R.fmt, .string R.head.id, .string R.head.title, .string R.head.link, .string R.head.author, .string R.head.content, .string R.head.date, .int .i8 R.head.kind, .slice pb eb cb] 50)) := (Below.refl _ w14).alloc (Nat.le_refl _) _
                  replace CX := (CX.below hba (Nat.le_refl _)).mono hba.size
                  replace CY := (CY.below hba (Nat.le_refl _)).mono hba.size
                  have hb15 := bt hbW hba
                  generalize hw15 : w14.alloc (.cells #[.int .i8 R.fmt, .string R.head.id, .string R.head.title, .string R.head.link, .string R.head.author, .string R.head.content, .string R.head.date, .int .i8 R.head.kind, .slice pb eb cb] 50) = w15 at B1 B2 CX CY hb15
                  have x0 : w15.cell? ⟨g1, 0, none⟩ = some (.int .i8 R.fmt) := B1.blk.cell 0 rfl
                  have x1 : w15.cell? ⟨g1, 1, none⟩ = some (.string R.head.id) := B1.blk.cell 1 rfl
                  have x2 : w15.cell? ⟨g1, 2, none⟩ = some (.string R.head.title) := B1.blk.cell 2 rfl
                  have x3 : w15.cell? ⟨g1, 3, none⟩ = some (.string R.head.link) := B1.blk.cell 3 rfl
                  have x4 : w15.cell? ⟨g1, 4, none⟩ = some (.string R.head.author) := B1.blk.cell 4 rfl
                  have x5 : w15.cell? ⟨g1, 5, none⟩ = some (.string R.head.content) := B1.blk.cell 5 rfl
                  have x6 : w15.cell? ⟨g1, 6, none⟩ = some (.string R.head.date) := B1.blk.cell 6 rfl
                  have x7 : w15.cell? ⟨g1, 7, none⟩ = some (.int .i8 R.head.kind) := B1.blk.cell 7 rfl
                  have x8 : w15.cell? ⟨g1, 8, none⟩ = some (.slice pa ea ca) := B1.blk.cell 8 rfl
                  have y0 : w15.cell? ⟨w14.heap.size, 0, none⟩ = some (.int .i8 R.fmt) := B2.blk.cell 0 rfl
                  have y1 : w15.cell? ⟨w14.heap.size, 1, none⟩ = some (.string R.head.id) := B2.blk.cell 1 rfl
                  have y2 : w15.cell? ⟨w14.heap.size, 2, none⟩ = some (.string R.head.title) := B2.blk.cell 2 rfl
                  have y3 : w15.cell? ⟨w14.heap.size, 3, none⟩ = some (.string R.head.link) := B2.blk.cell 3 rfl
                  have y4 : w15.cell? ⟨w14.heap.size, 4, none⟩ = some (.string R.head.author) := B2.blk.cell 4 rfl
                  have y5 : w15.cell? ⟨w14.heap.size, 5, none⟩ = some (.string R.head.content) := B2.blk.cell 5 rfl
                  have y6 : w15.cell? ⟨w14.heap.size, 6, none⟩ = some (.string R.head.date) := B2.blk.cell 6 rfl
                  have y7 : w15.cell? ⟨w14.heap.size, 7, none⟩ = some (.int .i8 R.head.kind) := B2.blk.cell 7 rfl
                  have y8 : w15.cell? ⟨w14.heap.size, 8, none⟩ = some (.slice pb eb cb) := B2.blk.cell 8 rfl
                  have HSM2 := Lib.hid (HSM.out _ _ w15 CX CY)
                  have HB15 := Lib.hid hb15
                  rw [← hw15] at x0 x1 x2 x3 x4 x5 x6 x7 x8 y0 y1 y2 y3 y4 y5 y6 y7 y8 HSM2 HB15
                  clear HSM CX CY B1 B2 hx2 hba hbW hb14 hb15 hw15
                  unfold rawC
                  go_wp2_with fail
                  refine (HSM2.out).mono ?_
                  rintro r w16 ⟨rfl, hb16⟩
                  have hb16 := bt HB15.out hb16
                  clear x0 x1 x2 x3 x4 x5 x6 x7 x8 y0 y1 y2 y3 y4 y5 y6 y7 y8
                  go_wp2_with fail
                  refine (HW.out _).mono ?_
                  rintro r wz ⟨rfl, hbz⟩
                  go_wp2_with fail
                  go_ret
                  exact ⟨rfl, bt hb16 hbz⟩
                | false =>
                  have e2 : ¬ s.toList = [] := by unfold emB at hem; simpa using hem
                  have e3 : (!s.toList.isEmpty) = true := by simpa using e2
                  have HEL := Lib.hid (elO_f hem)
                  clear hem
                  obtain ⟨v7, w7, hr7, O7, hb67⟩ := O1.app1 (evT s) (.slice none 0 0) (nilC _ _) (Nat.le_refl _) hs6 (by simp)
                  have h57 := (show Below xb w5 w6 from h56).trans hb67
                  obtain ⟨a7x, m7x, c7x, hv7⟩ : ∃ a l c, v7 = .slice a l c := by obtain ⟨avs, h1, -⟩ := O7; exact own_slice h1
                  subst hv7
                  have HR7 := Lib.hid hr7
                  have hs7 := Nat.le_trans hs6 hb67.size
                  have hs67 := hb67.size
                  have bN7 := bN6.below hb67 hbn
                  clear hr7 hb67
                  obtain ⟨v8, w8, hr8, O8, hb68⟩ := O7.app1 (evE othN) (.slice none 0 0) (nilC _ _) (Nat.le_refl _) hs7 (by simp)
                  have h58 := h57.trans hb68
                  obtain ⟨a8, m8, c8, hv8⟩ : ∃ a l c, v8 = .slice a l c := by obtain ⟨avs, h1, -⟩ := O8; exact own_slice h1
                  subst hv8
                  have HR8 := Lib.hid hr8
                  have hX : OwnE xb xb w8 (.slice a8 m8 c8) (flT (elO s)) := by rw [HEL.out]; exact O8
                  have n0 : w7.cell? ⟨nb, 0, none⟩ = some (.string ⟨#[117, 114, 110, 58, 111, 116, 104, 101, 114]⟩) := bN7.blk.cell 0 rfl
                  have n1 : w7.cell? ⟨nb, 1, none⟩ = some (.string ⟨#[116, 105, 116, 108, 101]⟩) := bN7.blk.cell 1 rfl
                  have hs68 : w6.heap.size ≤ w8.heap.size := Nat.le_trans hs67 hb68.size
                  clear hr8 O8 hb68 O7 hs67 hs7 h57
                  go_upto_region 13 with fail
                  go_upto_region 14 with (at_builtin; refine wpList_append_run rfl _ _ _ _ rfl _ _ rfl rfl _ _ HR7.out ?_; clear HR7)
                  go_upto_region 15 with (at_builtin; refine wpList_append_run rfl _ _ _ _ rfl _ _ rfl rfl _ _ HR8.out ?_; clear HR8)
                  clear n0 n1 bN7
                  have hbW := HB5.out.trans ((show Below xb w5 w8 from h58).mono hws)
                  have hB1 := HB1.out.below h58 (by have := HB1.out.lt; have := HXB.out; omega)
                  have hCX := (HCX.out.below h58 (by rw [HXB.out]; exact Nat.le_refl _)).mono (by rw [HXB.out]; exact Nat.le_trans hs6 hs68)
                  have hD : Below w8.heap.size w8 w8.drew := (Below.refl _ w8).drew
                  have hbD : Below w.heap.size w w8.drew := hbW.drew
                  have eD := (HE.out.below hbD).f.r
                  have xD := (hX.below hD (Nat.le_refl _) (Nat.le_trans (Nat.le_refl _) (Nat.le_trans hs6 hs68))).reads (Nat.le_trans hs6 hs68)
                  obtain ⟨ad, cp, hcv, hc1, hc2⟩ := HE.out.f.c
                  have hcp : cp = cap := by injection hcv with h1 h2 h3; exact h3.symm
                  rw [hcp] at hc1 hc2
                  rw [HNN.out] at hc1
                  unfold maxLen at hc2
                  clear hcv hcp
                  have hqc : q ≤ cap := by omega
                  have hXl : (flT (elO s)).length ≤ 3 := by rw [HEL.out]; simp
                  have O4 : OwnE w8.drew.heap.size w8.drew.heap.size (w8.drew.alloc (.cells #[] 30)) (.slice (some ⟨w8.drew.heap.size, 0, none⟩) 0 0) [] := OwnE.lit (es := []) [] #[] rfl trivial (Nat.le_refl _) 0 rfl (by decide)
                  have hA : Below w8.drew.heap.size w8.drew (w8.drew.alloc (.cells #[] 30)) := (Below.refl _ w8.drew).alloc (Nat.le_refl _) _
                  have hs1 := eD.sub (n := nn) 0 q cap (by rw [HNN.out]; omega)
                  rw [List.drop_zero, Nat.zero_mul, Nat.add_zero] at hs1
                  have htk : (es.take q).length = q := by rw [List.length_take, HNN.out]; omega
                  obtain ⟨v5, w10, hr5, O5, hb10⟩ := O4.apps ((hs1.mono hbD.size).below hA (Nat.le_refl _)) (Nat.le_refl _) hA.size (by rw [htk]; simp; omega)
                  obtain ⟨a5, m5, c5, hv5⟩ : ∃ a l c, v5 = .slice a l c := by obtain ⟨avs, h1, -⟩ := O5; exact own_slice h1
                  subst hv5
                  have hD10 := hA.trans hb10
                  obtain ⟨v6, w11, hr6, O6, hb11⟩ := O5.apps (xD.below hD10 (Nat.le_refl _)) (Nat.le_refl _) hD10.size (by rw [List.length_append, htk]; simp; omega)
                  obtain ⟨a6, m6, c6, hv6⟩ : ∃ a l c, v6 = .slice a l c := by obtain ⟨avs, h1, -⟩ := O6; exact own_slice h1
                  subst hv6
                  have hD11 := hD10.trans hb11
                  have hs2 := eD.sub (n := nn) q (nn - q) (cap - q) (by rw [HNN.out]; omega)
                  have hdl : (es.drop q).length = nn - q := by rw [List.length_drop, HNN.out]
                  rw [List.take_of_length_le (by rw [hdl]; exact Nat.le_refl _)] at hs2
                  obtain ⟨v7, w12, hr7, O7, hb12⟩ := O6.apps ((hs2.mono hbD.size).below hD11 (Nat.le_refl _)) (Nat.le_refl _) hD11.size (by rw [List.length_append, List.length_append, htk, hdl]; simp; omega)
                  obtain ⟨a7, m7, c7, hv7⟩ : ∃ a l c, v7 = .slice a l c := by obtain ⟨avs, h1, -⟩ := O7; exact own_slice h1
                  subst hv7
                  have hD12 := hD11.trans hb12
                  have hM : [] ++ es.take q ++ flT (elO s) ++ es.drop q = insE es q s := by unfold insE; rw [List.nil_append]
                  rw [hM] at O7
                  have hEM : REv w12.heap.size (insE es q s) (.slice a7 m7 c7) w12 := rev_ge (insE_ge HGE.out (by omega)) (by have := insE_len es q s; rw [HNN.out] at this; omega) (O7.reads hD12.size) O7.cap
                  have hWM := ref16_Whole w12.heap.size _ _ w12 hEM.f.r (Nat.le_refl _) (by have := hEM.f.n; omega) hEM.f.z2
                  rw [HGM.out] at hWM
                  have HWM := Lib.hid hWM
                  have HEM := Lib.hid hEM
                  have hr5' : Sem.run Try.prog (AppV #[22, 22] 22 #[.slice (some ⟨w8.heap.size, 0, none⟩) 0 0, .slice (some ⟨b, off, none⟩) q cap]) (w8.alloc (.cells #[] 30)).drew = .ok (.slice a5 m5 c5) w10 := hr5
                  have hr6' : Sem.run Try.prog (AppV #[22, 22] 22 #[.slice a5 m5 c5, .slice a8 m8 c8]) w10 = .ok (.slice a6 m6 c6) w11 := hr6
                  have hr7' : Sem.run Try.prog (AppV #[22, 22] 22 #[.slice a6 m6 c6, .slice (some ⟨b, off + q * 5, none⟩) (nn - q) (cap - q)]) w11 = .ok (.slice a7 m7 c7) w12 := hr7
                  have HB12 := Lib.hid (hbD.trans (hD12.mono hbD.size))
                  have h8c : Below w8.heap.size w8 w12 := hD.trans hD12
                  have HB1z := Lib.hid (hB1.below h8c hB1.lt)
                  have HCXz := Lib.hid ((hCX.below h8c (Nat.le_refl _)).mono h8c.size)
                  clear hr5 hr6 hr7 O4 O5 O6 O7 hA hs1 hs2 hD hbD eD xD hX hB1 hCX hb10 hb11 hb12 hD10 hD11 hD12 hEM hWM hM h8c hbW h58 HB1 HCX hXl htk hdl
                  refine (wpIn_wide (n := 6)).1 ?_
                  refine wpIn_region_T 11 (fun _ => True) (by kernel_rfl) (by decide) ?_
                  refine walkT_take (i := 1) (v := ?_) rfl (by kernel_rfl) (fun _ _ _ h => h) ⟨Or.inl ⟨by rfl, ?_⟩, fun _ => rfl⟩ trivial ?_
                  rotate_left
                  · intro u hu
                    go_simp
                    try rfl
                  simp only [Act.put]
                  refine walkT_take (i := 2) (v := ?_) rfl (by kernel_rfl) (fun _ _ _ h => h) ⟨Or.inl ⟨by rfl, ?_⟩, fun _ => rfl⟩ trivial ?_
                  rotate_left
                  · intro u hu
                    go_simp
                    try rfl
                  simp only [Act.put]
                  refine walkT_take (i := 3) (v := ?_) rfl (by kernel_rfl) (fun _ _ _ h => h) ⟨Or.inl ⟨by rfl, ?_⟩, fun _ => rfl⟩ trivial ?_
                  rotate_left
                  · intro u hu
                    go_simp
                    try rfl
                  simp only [Act.put]
                  refine walkT_take (i := 5) (v := ?_) rfl (by kernel_rfl) (fun _ _ _ h => h) ⟨Or.inl ⟨by rfl, ?_⟩, fun _ => rfl⟩ trivial ?_
                  rotate_left
                  · intro u hu
                    go_simp
                    try rfl
                  simp only [Act.put]
                  refine walkT_take (i := 7) (v := ?_) rfl (by kernel_rfl) (fun _ _ _ h => h) ⟨Or.inl ⟨by rfl, ?_⟩, fun _ => rfl⟩ trivial ?_
                  rotate_left
                  · intro u hu
                    go_simp
                    try rfl
                  simp only [Act.put]
                  refine walkT_take (i := 8) (v := ?_) rfl (by kernel_rfl) (fun _ _ _ h => h) ⟨Or.inl ⟨by rfl, ?_⟩, fun _ => rfl⟩ trivial ?_
                  rotate_left
                  · intro u hu
                    go_simp
                    try rfl
                  simp only [Act.put]
                  refine walkT_take (i := 9) (v := ?_) rfl (by kernel_rfl) (fun _ _ _ h => h) ⟨Or.inl ⟨by rfl, ?_⟩, fun _ => rfl⟩ trivial ?_
                  rotate_left
                  · intro u hu
                    go_simp
                    try rw [if_pos (show q ≤ nn by omega), if_neg (show ¬ cap = q by omega)]
                    try rfl
                  simp only [Act.put]
                  refine walkT_step (i := 0) rfl (by kernel_rfl) (fun K hK => ?_)
                  rw [if_pos (by rfl)]
                  go_simp
                  refine hK _ _ trivial ?_
                  clear hK K
                  refine walkT_step (i := 4) rfl (by kernel_rfl) (fun K hK => ?_)
                  rw [if_pos (by rfl)]
                  go_simp
                  refine hK _ _ trivial ?_
                  clear hK K
                  refine walkT_step (i := 6) rfl (by kernel_rfl) (fun K hK => ?_)
                  rw [if_pos (by rfl)]
                  go_simp
                  refine hK _ _ trivial ?_
                  clear hK K
                  refine walkT_step (i := 10) rfl (by kernel_rfl) (fun K hK => ?_)
                  rw [if_pos (by rfl)]
                  go_simp
                  refine hK _ _ trivial ?_
                  clear hK K
                  clear hr5' hr6' hr7'
                  refine walkT_tail (by kernel_rfl) ?_
                  simp only [List.drop_succ_cons, List.drop_zero]
                  gi_wp2_with fail
                  go_wp2_with fail
                  refine (HWM.out).mono ?_
                  rintro r w13 ⟨rfl, hb13⟩
                  have hEM := HEM.out.below hb13
                  have hPM := rss_Parse w12.heap.size _ _ w13 hEM
                  unfold PaC at hPM
                  rw [if_neg HKM.out, HFM.out] at hPM
                  have HPM := Lib.hid hPM
                  have hbW := bt HB12.out hb13
                  have B1 := HB1z.out.below hb13 HB1z.out.lt
                  have CX := (HCXz.out.below hb13 (Nat.le_refl _)).mono hb13.size
                  clear hb13 hEM hPM HWM HEM HB12 HB1z HCXz
                  go_wp2_with fail
                  refine (HPM.out).mono ?_
                  rintro r w14 ⟨u2, rfl, ⟨z2, rfl, hx2⟩, hb14⟩
                  replace B1 := B1.below hb14 B1.lt
                  replace CX := (CX.below hb14 (Nat.le_refl _)).mono hb14.size
                  replace hbW := bt hbW hb14
                  obtain ⟨pb, eb, cb, rfl⟩ := hx2.form
                  have CY := CReads.of_own hx2
                  have B2 := RowAt.new w14 #[.int .i8 R.fmt, .string R.head.id, .string R.head.title, .string R.head.link, .string R.head.author, .string R.head.content, .string R.head.date, .int .i8 R.head.kind, .slice pb eb cb] 50
                  replace B1 := B1.alloc (.cells #[.int .i8 R.fmt, .string R.head.id, .string R.head.title, .string R.head.link, .string R.head.author, .string R.head.content, .string R.head.date, .int .i8 R.head.kind, .slice pb eb cb] 50)
                  have hba : Below w14.heap.size w14 (w14.alloc (.cells #[.int .i8 R.fmt, .string R.head.id, .string R.head.title, .string R.head.link, .string R.head.author, .string R.head.content, .string R.head.date, .int .i8 R.head.kind, .slice pb eb cb] 50)) := (Below.refl _ w14).alloc (Nat.le_refl _) _
                  replace CX := (CX.below hba (Nat.le_refl _)).mono hba.size
                  replace CY := (CY.below hba (Nat.le_refl _)).mono hba.size
                  have hb15 := bt hbW hba
                  generalize hw15 : w14.alloc (.cells #[.int .i8 R.fmt, .string R.head.id, .string R.head.title, .string R.head.link, .string R.head.author, .string R.head.content, .string R.head.date, .int .i8 R.head.kind, .slice pb eb cb] 50) = w15 at B1 B2 CX CY hb15
                  have x0 : w15.cell? ⟨g1, 0, none⟩ = some (.int .i8 R.fmt) := B1.blk.cell 0 rfl
                  have x1 : w15.cell? ⟨g1, 1, none⟩ = some (.string R.head.id) := B1.blk.cell 1 rfl
                  have x2 : w15.cell? ⟨g1, 2, none⟩ = some (.string R.head.title) := B1.blk.cell 2 rfl
                  have x3 : w15.cell? ⟨g1, 3, none⟩ = some (.string R.head.link) := B1.blk.cell 3 rfl
                  have x4 : w15.cell? ⟨g1, 4, none⟩ = some (.string R.head.author) := B1.blk.cell 4 rfl
                  have x5 : w15.cell? ⟨g1, 5, none⟩ = some (.string R.head.content) := B1.blk.cell 5 rfl
                  have x6 : w15.cell? ⟨g1, 6, none⟩ = some (.string R.head.date) := B1.blk.cell 6 rfl
                  have x7 : w15.cell? ⟨g1, 7, none⟩ = some (.int .i8 R.head.kind) := B1.blk.cell 7 rfl
                  have x8 : w15.cell? ⟨g1, 8, none⟩ = some (.slice pa ea ca) := B1.blk.cell 8 rfl
                  have y0 : w15.cell? ⟨w14.heap.size, 0, none⟩ = some (.int .i8 R.fmt) := B2.blk.cell 0 rfl
                  have y1 : w15.cell? ⟨w14.heap.size, 1, none⟩ = some (.string R.head.id) := B2.blk.cell 1 rfl
                  have y2 : w15.cell? ⟨w14.heap.size, 2, none⟩ = some (.string R.head.title) := B2.blk.cell 2 rfl
                  have y3 : w15.cell? ⟨w14.heap.size, 3, none⟩ = some (.string R.head.link) := B2.blk.cell 3 rfl
                  have y4 : w15.cell? ⟨w14.heap.size, 4, none⟩ = some (.string R.head.author) := B2.blk.cell 4 rfl
                  have y5 : w15.cell? ⟨w14.heap.size, 5, none⟩ = some (.string R.head.content) := B2.blk.cell 5 rfl
                  have y6 : w15.cell? ⟨w14.heap.size, 6, none⟩ = some (.string R.head.date) := B2.blk.cell 6 rfl
                  have y7 : w15.cell? ⟨w14.heap.size, 7, none⟩ = some (.int .i8 R.head.kind) := B2.blk.cell 7 rfl
                  have y8 : w15.cell? ⟨w14.heap.size, 8, none⟩ = some (.slice pb eb cb) := B2.blk.cell 8 rfl
                  have HSM2 := Lib.hid (HSM.out _ _ w15 CX CY)
                  have HB15 := Lib.hid hb15
                  rw [← hw15] at x0 x1 x2 x3 x4 x5 x6 x7 x8 y0 y1 y2 y3 y4 y5 y6 y7 y8 HSM2 HB15
                  clear HSM CX CY B1 B2 hx2 hba hbW hb14 hb15 hw15
                  unfold rawC
                  go_wp2_with fail
                  refine (HSM2.out).mono ?_
                  rintro r w16 ⟨rfl, hb16⟩
                  have hb16 := bt HB15.out hb16
                  clear x0 x1 x2 x3 x4 x5 x6 x7 x8 y0 y1 y2 y3 y4 y5 y6 y7 y8
                  go_wp2_with fail
                  refine (HW.out _).mono ?_
                  rintro r wz ⟨rfl, hbz⟩
                  go_wp2_with fail
                  go_ret
                  exact ⟨rfl, bt hb16 hbz⟩
end Go.Proofs.Yteefopeclfojiaa
