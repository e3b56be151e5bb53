/-
  Parts AtP AtR of this seat's texts, in one file: contracts of functions that the law reaches, and the plain laws behind them. No condition.
-/
import Derived.Test.YteefopeclfojiaaG13
import Derived.Test.YteefopeclfojiaaG14
/- 
  Layer 24 in plain terms: an entry of fields is found as them.
 -/
namespace Go.Proofs.Yteefopeclfojiaa
open Go.RowKit
def nId : NmT := (spA, ⟨#[105, 100]⟩)
def nTitle : NmT := (spA, ⟨#[116, 105, 116, 108, 101]⟩)
def nLink : NmT := (spA, ⟨#[108, 105, 110, 107]⟩)
def nUpd : NmT := (spA, ⟨#[117, 112, 100, 97, 116, 101, 100]⟩)
def nAut : NmT := (spA, ⟨#[97, 117, 116, 104, 111, 114]⟩)
def nName : NmT := (spA, ⟨#[110, 97, 109, 101]⟩)
def nCont : NmT := (spA, ⟨#[99, 111, 110, 116, 101, 110, 116]⟩)
def nSum : NmT := (spA, ⟨#[115, 117, 109, 109, 97, 114, 121]⟩)
def atH (u : ByteArray) : List AtT := [((⟨#[]⟩, ⟨#[104, 114, 101, 102]⟩), u)]
/-- an entry of fields. -/
def entF (a b c d e f g : ByteArray) : Fo := .elt nId [] (elF a) (.elt nTitle [] (elF b) (.elt nLink (atH c) .nil (.elt nUpd [] (elF d) (.elt nAut [] (.elt nName [] (elF e) .nil) (.elt nCont [] (elF f) (.elt nSum [] (elF g) .nil))))))
def entT (a b c d e f g : ByteArray) : KidT := (feedN, [], .elt entryN [] (entF a b c d e f g) .nil)
theorem emB_nul {s : ByteArray} (h : emB s = true) : s = ⟨#[]⟩ := by
  have h1 : s.toList = [] := by unfold emB at h; simpa using h
  rw [ByteArray.toList_eq] at h1
  cases s with | mk d => rw [show d = #[] from by simpa using h1]
theorem elF_tx (s : ByteArray) : strOfNums (elF s).tx = s := by
  unfold elF
  cases h : emB s with
  | true => rw [if_pos rfl, emB_nul h]; rfl
  | false => rw [if_neg Bool.false_ne_true]; show strOfNums (nums s ++ []) = s; rw [List.append_nil, strOfNums_nums]
theorem elF_wf (s : ByteArray) : Wf false (elF s) := by
  unfold elF
  cases h : emB s with
  | true => rw [if_pos rfl]; trivial
  | false => rw [if_neg Bool.false_ne_true]; exact ⟨rfl, h, trivial⟩
section
variable (a b c d e f g : ByteArray)
theorem entF_kids : (entF a b c d e f g).kids = [(nId, [], elF a), (nTitle, [], elF b), (nLink, atH c, .nil), (nUpd, [], elF d), (nAut, [], .elt nName [] (elF e) .nil), (nCont, [], elF f), (nSum, [], elF g)] := rfl
theorem ent_wf : WfT (entT a b c d e f g) :=
  ⟨rfl, show emB feedN.2 = false by decide +kernel, rfl, show emB entryN.2 = false by decide +kernel,
    ⟨rfl, by decide +kernel, elF_wf a, rfl, by decide +kernel, elF_wf b, (by kernel_rfl), by decide +kernel, trivial, rfl, by decide +kernel, elF_wf d, rfl, by decide +kernel, ⟨rfl, by decide +kernel, elF_wf e, trivial⟩, rfl, by decide +kernel, elF_wf f, rfl, by decide +kernel, elF_wf g, trivial⟩, trivial⟩
theorem ent_nmd (nm : NmT) : nmdT (entF a b c d e f g) nm = (if nId = nm then [(nId, [], elF a)] else []) ++ (if nTitle = nm then [(nTitle, [], elF b)] else []) ++ (if nLink = nm then [(nLink, atH c, Fo.nil)] else []) ++ (if nUpd = nm then [(nUpd, [], elF d)] else []) ++ (if nAut = nm then [(nAut, [], .elt nName [] (elF e) .nil)] else []) ++ (if nCont = nm then [(nCont, [], elF f)] else []) ++ (if nSum = nm then [(nSum, [], elF g)] else []) := by
  unfold nmdT
  rw [entF_kids]
  simp only [List.filter_cons, List.filter_nil, decide_eq_true_eq]
  repeat' split
  all_goals rfl
theorem ent_id : nmdT (entF a b c d e f g) nId = [(nId, [], elF a)] := by rw [ent_nmd]; kernel_rfl
theorem ent_title : nmdT (entF a b c d e f g) nTitle = [(nTitle, [], elF b)] := by rw [ent_nmd]; kernel_rfl
theorem ent_link : nmdT (entF a b c d e f g) nLink = [(nLink, atH c, .nil)] := by rw [ent_nmd]; kernel_rfl
theorem ent_upd : nmdT (entF a b c d e f g) nUpd = [(nUpd, [], elF d)] := by rw [ent_nmd]; kernel_rfl
theorem ent_aut : nmdT (entF a b c d e f g) nAut = [(nAut, [], .elt nName [] (elF e) .nil)] := by rw [ent_nmd]; kernel_rfl
theorem ent_cont : nmdT (entF a b c d e f g) nCont = [(nCont, [], elF f)] := by rw [ent_nmd]; kernel_rfl
theorem ent_sum : nmdT (entF a b c d e f g) nSum = [(nSum, [], elF g)] := by rw [ent_nmd]; kernel_rfl
theorem ent_pub : nmdT (entF a b c d e f g) (spA, ⟨#[112, 117, 98, 108, 105, 115, 104, 101, 100]⟩) = [] := by rw [ent_nmd]; kernel_rfl
theorem ent_cdate : nmdT (entF a b c d e f g) (spC, ⟨#[100, 97, 116, 101]⟩) = [] := by rw [ent_nmd]; kernel_rfl
theorem ent_name : nmdT (.elt nName [] (elF e) .nil) nName = [(nName, [], elF e)] := by kernel_rfl
theorem txt_of {F G : Fo} {n m : NmT} {at_ : List AtT} (h : nmdT F n = [(m, at_, G)]) : txtT F n = strOfNums G.tx := by unfold txtT; rw [h]; rfl
theorem txt_no {F : Fo} {n : NmT} (h : nmdT F n = []) : txtT F n = ⟨#[]⟩ := by unfold txtT; rw [h]; rfl
/-- what comes of them. -/
def entI : Itm := ⟨a, b, c, e, if emptyB f then g else f, if emptyB d then ⟨#[]⟩ else d, if emptyB d then 0 else 2⟩
theorem ent_item : entryTT (entF a b c d e f g) = entI a b c d e f g := by
  have h1 : txtT (entF a b c d e f g) nId = a := by rw [txt_of (ent_id ..), elF_tx]
  have h2 : txtT (entF a b c d e f g) nTitle = b := by rw [txt_of (ent_title ..), elF_tx]
  have h3 : linkT (entF a b c d e f g) = c := by
    unfold linkT
    rw [show ((spA, ⟨#[108, 105, 110, 107]⟩) : NmT) = nLink from rfl, ent_link]
    kernel_rfl
  have h4 : txtT (entF a b c d e f g) nUpd = d := by rw [txt_of (ent_upd ..), elF_tx]
  have h5 : authorT (entF a b c d e f g) = some e := by
    unfold authorT
    rw [show ((spA, ⟨#[97, 117, 116, 104, 111, 114]⟩) : NmT) = nAut from rfl, ent_aut]
    unfold autTK
    rw [show ((spA, ⟨#[110, 97, 109, 101]⟩) : NmT) = nName from rfl]
    simp only [List.findSome?_cons, ent_name]
    show some (strOfNums (elF e).tx) = some e
    rw [elF_tx]
  have h6 : txtT (entF a b c d e f g) nCont = f := by rw [txt_of (ent_cont ..), elF_tx]
  have h7 : txtT (entF a b c d e f g) nSum = g := by rw [txt_of (ent_sum ..), elF_tx]
  have h8 : txtT (entF a b c d e f g) (spA, ⟨#[112, 117, 98, 108, 105, 115, 104, 101, 100]⟩) = ⟨#[]⟩ := txt_no (ent_pub ..)
  have h9 : txtT (entF a b c d e f g) (spC, ⟨#[100, 97, 116, 101]⟩) = ⟨#[]⟩ := txt_no (ent_cdate ..)
  have h10 : emptyB ⟨#[]⟩ = true := emptyB_t (fun i h => absurd h (Nat.not_lt_zero i))
  have hd : dateT (entF a b c d e f g) [⟨#[117, 112, 100, 97, 116, 101, 100]⟩, ⟨#[112, 117, 98, 108, 105, 115, 104, 101, 100]⟩] = (if emptyB d then (⟨#[]⟩, 0) else (d, 2)) := by
    unfold dateT dateT dateT
    rw [show ((spA, ⟨#[117, 112, 100, 97, 116, 101, 100]⟩) : NmT) = nUpd from rfl, h4, h8, h9, h10, if_pos rfl, if_pos rfl]
  unfold entryTT entryT bothT whoT contT entI
  rw [hd, show ((spA, ⟨#[105, 100]⟩) : NmT) = nId from rfl, show ((spA, ⟨#[116, 105, 116, 108, 101]⟩) : NmT) = nTitle from rfl, show ((spA, ⟨#[99, 111, 110, 116, 101, 110, 116]⟩) : NmT) = nCont from rfl, show ((spA, ⟨#[115, 117, 109, 109, 97, 114, 121]⟩) : NmT) = nSum from rfl, h1, h2, h3, h5, h6, h7]
  cases emptyB d <;> rfl
theorem ent_feed : feedQ (flT (entT a b c d e f g)) = ⟨3, headTT (.elt entryN [] (entF a b c d e f g) .nil), [entI a b c d e f g]⟩ ∧ isP (flT (entT a b c d e f g)) = true := by
  obtain ⟨h1, h2⟩ := feed_flT _ (ent_wf a b c d e f g)
  refine ⟨?_, by rw [h2]; rfl⟩
  rw [h1]
  unfold feedTQ
  rw [if_pos (show (entT a b c d e f g).1 = feedN from rfl)]
  have h3 : nmdT (.elt entryN [] (entF a b c d e f g) .nil) entryN = [(entryN, [], entF a b c d e f g)] := by
    unfold nmdT
    rw [Fo.kids, Fo.kids, List.filter_cons, if_pos (by show decide (entryN = entryN) = true; simp), List.filter_nil]
  show RawT.mk 3 _ ((nmdT (.elt entryN [] (entF a b c d e f g) .nil) entryN).map _) = _
  rw [h3]
  show RawT.mk 3 _ [entryTT (entF a b c d e f g)] = _
  rw [ent_item]
  rfl
theorem ent_fl : flT (entT a b c d e f g) = [evS feedN [], evS entryN []] ++ flT (elT nId a) ++ flT (elT nTitle b) ++ [evS nLink (atH c), evE nLink] ++ flT (elT nUpd d) ++ [evS nAut []] ++ flT (elT nName e) ++ [evE nAut] ++ flT (elT nCont f) ++ flT (elT nSum g) ++ [evE entryN, evE feedN] := by
  unfold entT flT entF elT
  simp [Fo.fl, List.append_assoc]
theorem el_len (n : NmT) (s : ByteArray) : (flT (elT n s)).length ≤ 3 := by
  cases h : emB s with
  | true => rw [elT_t h]; simp
  | false => rw [elT_f h]; simp
end
end Go.Proofs.Yteefopeclfojiaa
/- 
  Layer 24: the law AtomEntry.
 -/
namespace Go.Proofs.Yteefopeclfojiaa
open Go.RowKit
theorem el_sz (n : NmT) (s : ByteArray) : (flT (elT n s)).length ≤ 3 ∧ (∀ e ∈ flT (elT n s), e.at_ = []) ∧ (txsL (flT (elT n s))).length ≤ s.size := by
  cases h : emB s with
  | true => rw [elT_t h]; exact ⟨by simp, by simp [evS, evE], by simp [txsL, evS, evE, nums_nil]⟩
  | false => rw [elT_f h]; exact ⟨by simp, by simp [evS, evE, evT], by simp [txsL, evS, evE, evT, nums_nil, nums_length]⟩
theorem ent_sz (a b c d e f g : ByteArray) (h1 : a.size + b.size + c.size ≤ 900) (h2 : d.size + e.size + f.size + g.size ≤ 1200) : (flT (entT a b c d e f g)).length ≤ 9999 ∧ (∀ x ∈ flT (entT a b c d e f g), x.at_.length ≤ 1000000) ∧ (txsL (flT (entT a b c d e f g))).length < 140737488355329 := by
  rw [ent_fl]
  have ka := el_sz nId a
  have kb := el_sz nTitle b
  have kd := el_sz nUpd d
  have ke := el_sz nName e
  have kf := el_sz nCont f
  have kg := el_sz nSum g
  refine ⟨by simp only [List.length_append, List.length_cons, List.length_nil]; omega, fun x hx => ?_, ?_⟩
  · simp only [List.mem_append, List.mem_cons, List.not_mem_nil, or_false] at hx
    rcases hx with ((((((((((h | h) | h) | h) | (h | h)) | h) | h) | h) | h) | h) | h) | (h | h)
    all_goals first
      | (rw [h]; simp [evS, evE, atH]; done)
      | (rw [ka.2.1 x h]; exact Nat.zero_le _)
      | (rw [kb.2.1 x h]; exact Nat.zero_le _)
      | (rw [kd.2.1 x h]; exact Nat.zero_le _)
      | (rw [ke.2.1 x h]; exact Nat.zero_le _)
      | (rw [kf.2.1 x h]; exact Nat.zero_le _)
      | (rw [kg.2.1 x h]; exact Nat.zero_le _)
  · simp only [txsL_append, List.length_append]
    have z1 : txsL [evS feedN [], evS entryN []] = [] := by simp [txsL, evS, nums_nil]
    have z2 : txsL [evS nLink (atH c), evE nLink] = [] := by simp [txsL, evS, evE, nums_nil]
    have z3 : txsL [evS nAut []] = [] := by simp [txsL, evS, nums_nil]
    have z4 : txsL [evE nAut] = [] := by simp [txsL, evE, nums_nil]
    have z5 : txsL [evE entryN, evE feedN] = [] := by simp [txsL, evE, nums_nil]
    rw [z1, z2, z3, z4, z5]
    simp only [List.length_nil]
    omega
/-- the row that the law builds, and the names. -/
structure EntS (w0 W : World) (q : Nat) (v : Value) (es : List Evt) (k : Nat) : Prop where
  own : OwnK (q + 3) W v es
  n1 : RowAt W q 24 #[.string spA, .string ⟨#[102, 101, 101, 100]⟩]
  n2 : RowAt W (q + 1) 24 #[.string spA, .string ⟨#[101, 110, 116, 114, 121]⟩]
  n3 : RowAt W (q + 2) 24 #[.string spA, .string ⟨#[97, 117, 116, 104, 111, 114]⟩]
  be : Below w0.heap.size w0 W
  le : w0.heap.size ≤ q
  len : es.length ≤ k
theorem EntS.app {w0 W W' : World} {q : Nat} {v u : Value} {es ms : List Evt} {k m base : Nat} (h : EntS w0 W q v es k) (hu : OwnK base W' u ms) (hb : Below W.heap.size W W') (hne : ms ≠ []) (hm : ms.length ≤ m) (hk : k + m ≤ 1000) :
    ∃ a n c w', (Builtin.append_ #[22, 22] 22 #[v, u]).run Try.prog W' = .ok (.slice a n c) w' ∧ EntS w0 w' q (.slice a n c) (es ++ ms) (k + m) := by
  have hl := h.n3.lt
  have hs := hb.size
  have hw := h.be.size
  have hle := h.le
  obtain ⟨a, n, c, w', h1, h2, h3⟩ := OwnK.app (h.own.below hb) hu hne (by omega) (by have := h.len; omega)
  exact ⟨a, n, c, w', h1, h2, (h.n1.below hb h.n1.lt).below h3 (by omega), (h.n2.below hb h.n2.lt).below h3 (by omega), (h.n3.below hb h.n3.lt).below h3 (by omega), (h.be.trans (hb.mono hw)).trans (h3.mono (by omega)), hle, by rw [List.length_append]; have := h.len; omega⟩
theorem EntS.c {w0 W : World} {q : Nat} {v : Value} {es : List Evt} {k : Nat} (h : EntS w0 W q v es k) : (W.cell? ⟨q, 0, none⟩ = some (.string spA) ∧ W.cell? ⟨q, 1, none⟩ = some (.string ⟨#[102, 101, 101, 100]⟩)) ∧ (W.cell? ⟨q + 1, 0, none⟩ = some (.string spA) ∧ W.cell? ⟨q + 1, 1, none⟩ = some (.string ⟨#[101, 110, 116, 114, 121]⟩)) ∧ W.cell? ⟨q + 2, 0, none⟩ = some (.string spA) ∧ W.cell? ⟨q + 2, 1, none⟩ = some (.string ⟨#[97, 117, 116, 104, 111, 114]⟩) :=
  ⟨⟨h.n1.blk.cell 0 rfl, h.n1.blk.cell 1 rfl⟩, ⟨h.n2.blk.cell 0 rfl, h.n2.blk.cell 1 rfl⟩, h.n3.blk.cell 0 rfl, h.n3.blk.cell 1 rfl⟩
theorem el_ne (n : NmT) (s : ByteArray) : flT (elT n s) ≠ [] := by unfold flT; simp
set_option maxRecDepth 100000 in
set_option maxHeartbeats 16000000 in
theorem law_AtomEntry (a b c d e f g : ByteArray) (w : World) (ha : a.size ≤ 140737488351232) (hb : b.size ≤ 140737488351232) (hc : c.size ≤ 140737488351232) (hd : d.size ≤ 140737488351232) (he : e.size ≤ 140737488351232) (hf : f.size ≤ 140737488351232) (hg : g.size ≤ 140737488351232) :
    Calls Try.prog 9 #[.string a, .string b, .string c, .string d, .string e, .string f, .string g] w fun r w' => r = .returned (.bool true) ∧ Below w.heap.size w w' := by
  have HW := Lib.hid law24_wakes
  have HN := Lib.hid atom_Name
  have HE := Lib.hid law24_el
  go_enter Try.func9, Try.ntmps9
  by_cases hx1 : 900 < a.size + b.size + c.size
  · have hd1 := decide_eq_true (show (900 : Int) < (a.size : Int) + (b.size : Int) + (c.size : Int) by omega)
    go_wp2_with fail
    refine (HW.out _).mono ?_
    rintro r wz ⟨rfl, hbz⟩
    go_wp2_with fail
    go_ret
    exact ⟨rfl, hbz⟩
  have hd1 := decide_eq_false (show ¬ (900 : Int) < (a.size : Int) + (b.size : Int) + (c.size : Int) by omega)
  by_cases hx2 : 1200 < d.size + e.size + f.size + g.size
  · have hd2 := decide_eq_true (show (1200 : Int) < (d.size : Int) + (e.size : Int) + (f.size : Int) + (g.size : Int) by omega)
    go_wp2_with fail
    refine (HW.out _).mono ?_
    rintro r wz ⟨rfl, hbz⟩
    go_wp2_with fail
    go_ret
    exact ⟨rfl, hbz⟩
  have hd2 := decide_eq_false (show ¬ (1200 : Int) < (d.size : Int) + (e.size : Int) + (f.size : Int) + (g.size : Int) by omega)
  have SZ := Lib.hid (ent_sz a b c d e f g (by omega) (by omega))
  have hf0 : f.size ≤ 1125899906842624 := by omega
  have hd0 : d.size ≤ 1125899906842624 := by omega
  go_wp2_with fail
  clear hd1 hd2 hx1 hx2 ha hb hc hd he hf hg
  refine (HN.out _ _).mono ?_
  rintro r w1 ⟨rfl, hb1⟩
  go_wp2_with fail
  refine (HN.out _ _).mono ?_
  rintro r w2 ⟨rfl, hb2⟩
  replace hb1 := bt hb1 hb2
  clear hb2
  go_wp2_with fail
  refine (HN.out _ _).mono ?_
  rintro r w3 ⟨rfl, hb2⟩
  replace hb1 := bt hb1 hb2
  clear hb2
  have S0 : EntS w ((((w3.alloc (.cells #[.string spA, .string ⟨#[102, 101, 101, 100]⟩] 24)).alloc (.cells #[.string spA, .string ⟨#[101, 110, 116, 114, 121]⟩] 24)).alloc (.cells #[.string spA, .string ⟨#[97, 117, 116, 104, 111, 114]⟩] 24)).alloc (.cells #[.int .i8 0, .string spA, .string ⟨#[102, 101, 101, 100]⟩, .slice none 0 0, .string ⟨#[]⟩, .int .i8 0, .string spA, .string ⟨#[101, 110, 116, 114, 121]⟩, .slice none 0 0, .string ⟨#[]⟩] 30)) w3.heap.size (.slice (some ⟨w3.heap.size + 1 + 1 + 1, 0, none⟩) 2 2) [evS feedN [], evS entryN []] 2 := by
    have hs := hb1.size
    have N1 := RowAt.new w3 #[.string spA, .string ⟨#[102, 101, 101, 100]⟩] 24
    have N2 := RowAt.new (w3.alloc (.cells #[.string spA, .string ⟨#[102, 101, 101, 100]⟩] 24)) #[.string spA, .string ⟨#[101, 110, 116, 114, 121]⟩] 24
    have N3 := RowAt.new ((w3.alloc (.cells #[.string spA, .string ⟨#[102, 101, 101, 100]⟩] 24)).alloc (.cells #[.string spA, .string ⟨#[101, 110, 116, 114, 121]⟩] 24)) #[.string spA, .string ⟨#[97, 117, 116, 104, 111, 114]⟩] 24
    have O1 := OwnK.lit (w := ((w3.alloc (.cells #[.string spA, .string ⟨#[102, 101, 101, 100]⟩] 24)).alloc (.cells #[.string spA, .string ⟨#[101, 110, 116, 114, 121]⟩] 24)).alloc (.cells #[.string spA, .string ⟨#[97, 117, 116, 104, 111, 114]⟩] 24)) (es := [evS feedN [], evS entryN []]) [.slice none 0 0, .slice none 0 0] #[.int .i8 0, .string spA, .string ⟨#[102, 101, 101, 100]⟩, .slice none 0 0, .string ⟨#[]⟩, .int .i8 0, .string spA, .string ⟨#[101, 110, 116, 114, 121]⟩, .slice none 0 0, .string ⟨#[]⟩] rfl ⟨.inl ⟨rfl, rfl⟩, .inl ⟨rfl, rfl⟩, trivial⟩ 2 rfl (by decide)
    simp only [World.size_alloc] at N2 N3 O1
    refine ⟨O1, ((N1.alloc _).alloc _).alloc _, (N2.alloc _).alloc _, N3.alloc _, ?_, hs, Nat.le_refl _⟩
    exact (((hb1.alloc hs _).alloc (by simp; omega) _).alloc (by simp; omega) _).alloc (by simp; omega) _
  clear hb1
  go_wp2_with fail
  generalize (((w3.alloc (.cells #[.string spA, .string ⟨#[102, 101, 101, 100]⟩] 24)).alloc (.cells #[.string spA, .string ⟨#[101, 110, 116, 114, 121]⟩] 24)).alloc (.cells #[.string spA, .string ⟨#[97, 117, 116, 104, 111, 114]⟩] 24)).alloc (.cells #[.int .i8 0, .string spA, .string ⟨#[102, 101, 101, 100]⟩, .slice none 0 0, .string ⟨#[]⟩, .int .i8 0, .string spA, .string ⟨#[101, 110, 116, 114, 121]⟩, .slice none 0 0, .string ⟨#[]⟩] 30) = w4 at S0 ⊢
  generalize w3.heap.size = q at S0 ⊢
  -- id
  refine (HE.out _ _ _).mono ?_
  rintro r w5 ⟨u, rfl, OU, hbu⟩
  obtain ⟨ua, un, uc, rfl⟩ := OU.form
  obtain ⟨a1, n1, c1, w6, hrun, S1⟩ := S0.app OU hbu (el_ne _ _) (el_sz _ _).1 (by decide)
  have HR := Lib.hid hrun
  clear hrun S0 OU hbu
  go_wp2_with (at_builtin; refine wpList_append_run rfl _ _ _ _ rfl _ _ rfl rfl _ _ HR.out ?_; clear HR)
  -- title
  refine (HE.out _ _ _).mono ?_
  rintro r w7 ⟨u, rfl, OU, hbu⟩
  obtain ⟨ua, un, uc, rfl⟩ := OU.form
  obtain ⟨a2, n2, c2, w8, hrun, S2⟩ := S1.app OU hbu (el_ne _ _) (el_sz _ _).1 (by decide)
  have HR := Lib.hid hrun
  clear hrun S1 OU hbu
  go_wp2_with (at_builtin; refine wpList_append_run rfl _ _ _ _ rfl _ _ rfl rfl _ _ HR.out ?_; clear HR)
  -- link
  refine (HN.out _ _).mono ?_
  rintro r w9 ⟨rfl, hb9⟩
  have hA := RowAt.new w9 #[.string ⟨#[]⟩, .string ⟨#[104, 114, 101, 102]⟩, .string c] 58
  have hbA : Below w8.heap.size w8 (w9.alloc (.cells #[.string ⟨#[]⟩, .string ⟨#[104, 114, 101, 102]⟩, .string c] 58)) := hb9.alloc hb9.size _
  go_wp2_with fail
  generalize w9.alloc (.cells #[.string ⟨#[]⟩, .string ⟨#[104, 114, 101, 102]⟩, .string c] 58) = w10 at hA hbA ⊢
  generalize w9.heap.size = ab at hA ⊢
  clear hb9
  refine (HN.out _ _).mono ?_
  rintro r w11 ⟨rfl, hb11⟩
  replace hA := hA.below hb11 hA.lt
  replace hbA := bt hbA hb11
  have OL := OwnK.lit (w := w11) (es := [evS nLink (atH c), evE nLink]) [.slice (some ⟨ab, 0, none⟩) 1 1, .slice none 0 0] #[.int .i8 0, .string spA, .string ⟨#[108, 105, 110, 107]⟩, .slice (some ⟨ab, 0, none⟩) 1 1, .string ⟨#[]⟩, .int .i8 1, .string spA, .string ⟨#[108, 105, 110, 107]⟩, .slice none 0 0, .string ⟨#[]⟩] rfl ⟨.inr ⟨ab, 1, _, rfl, hA, rfl⟩, .inl ⟨rfl, rfl⟩, trivial⟩ 2 rfl (by decide)
  obtain ⟨a3, n3, c3, w12, hrun, S3⟩ := S2.app OL (hbA.alloc hbA.size _) (by simp) (show _ ≤ 2 from Nat.le_refl _) (by decide)
  have HR := Lib.hid hrun
  clear hrun S2 OL hbA hA hb11
  go_wp2_with (at_builtin; refine wpList_append_run rfl _ _ _ _ rfl _ _ rfl rfl _ _ HR.out ?_; clear HR)
  -- updated, author
  refine (HE.out _ _ _).mono ?_
  rintro r w13 ⟨u, rfl, OU, hbu⟩
  obtain ⟨ua, un, uc, rfl⟩ := OU.form
  obtain ⟨a4, n4, c4, w14, hrun, S4⟩ := S3.app OU hbu (el_ne _ _) (el_sz _ _).1 (by decide)
  have HR := Lib.hid hrun
  clear hrun S3 OU hbu
  have OL := OwnK.lit (w := w14) (es := [evS nAut []]) [.slice none 0 0] #[.int .i8 0, .string spA, .string ⟨#[97, 117, 116, 104, 111, 114]⟩, .slice none 0 0, .string ⟨#[]⟩] rfl ⟨.inl ⟨rfl, rfl⟩, trivial⟩ 1 rfl (by decide)
  obtain ⟨a5, n5, c5, w15, hrun, S5⟩ := S4.app OL ((Below.refl _ w14).alloc (Nat.le_refl _) _) (by simp) (show _ ≤ 1 from Nat.le_refl _) (by decide)
  have HR2 := Lib.hid hrun
  obtain ⟨-, -, d1, d2⟩ := S4.c
  clear hrun S4 OL
  go_wp2_with (first
      | (at_builtin; refine wpList_append_run rfl _ _ _ _ rfl _ _ rfl rfl _ _ HR.out ?_; clear HR)
      | (at_builtin; refine wpList_append_run rfl _ _ _ _ rfl _ _ rfl rfl _ _ HR2.out ?_; clear HR2))
  clear d1 d2
  -- name
  refine (HE.out _ _ _).mono ?_
  rintro r w16 ⟨u, rfl, OU, hbu⟩
  obtain ⟨ua, un, uc, rfl⟩ := OU.form
  obtain ⟨a6, n6, c6, w17, hrun, S6⟩ := S5.app OU hbu (el_ne _ _) (el_sz _ _).1 (by decide)
  have HR := Lib.hid hrun
  clear hrun S5 OU hbu
  have OL := OwnK.lit (w := w17) (es := [evE nAut]) [.slice none 0 0] #[.int .i8 1, .string spA, .string ⟨#[97, 117, 116, 104, 111, 114]⟩, .slice none 0 0, .string ⟨#[]⟩] rfl ⟨.inl ⟨rfl, rfl⟩, trivial⟩ 1 rfl (by decide)
  obtain ⟨a7, n7, c7, w18, hrun, S7⟩ := S6.app OL ((Below.refl _ w17).alloc (Nat.le_refl _) _) (by simp) (show _ ≤ 1 from Nat.le_refl _) (by decide)
  have HR2 := Lib.hid hrun
  obtain ⟨-, -, d1, d2⟩ := S6.c
  clear hrun S6 OL
  go_wp2_with (first
      | (at_builtin; refine wpList_append_run rfl _ _ _ _ rfl _ _ rfl rfl _ _ HR.out ?_; clear HR)
      | (at_builtin; refine wpList_append_run rfl _ _ _ _ rfl _ _ rfl rfl _ _ HR2.out ?_; clear HR2))
  clear d1 d2
  -- content
  refine (HE.out _ _ _).mono ?_
  rintro r w19 ⟨u, rfl, OU, hbu⟩
  obtain ⟨ua, un, uc, rfl⟩ := OU.form
  obtain ⟨a8, n8, c8, w20, hrun, S8⟩ := S7.app OU hbu (el_ne _ _) (el_sz _ _).1 (by decide)
  have HR := Lib.hid hrun
  clear hrun S7 OU hbu
  go_wp2_with (at_builtin; refine wpList_append_run rfl _ _ _ _ rfl _ _ rfl rfl _ _ HR.out ?_; clear HR)
  -- summary, the ends
  refine (HE.out _ _ _).mono ?_
  rintro r w21 ⟨u, rfl, OU, hbu⟩
  obtain ⟨ua, un, uc, rfl⟩ := OU.form
  obtain ⟨a9, n9, c9, w22, hrun, S9⟩ := S8.app OU hbu (el_ne _ _) (el_sz _ _).1 (by decide)
  have HR := Lib.hid hrun
  clear hrun S8 OU hbu
  have OL := OwnK.lit (w := w22) (es := [evE entryN, evE feedN]) [.slice none 0 0, .slice none 0 0] #[.int .i8 1, .string spA, .string ⟨#[101, 110, 116, 114, 121]⟩, .slice none 0 0, .string ⟨#[]⟩, .int .i8 1, .string spA, .string ⟨#[102, 101, 101, 100]⟩, .slice none 0 0, .string ⟨#[]⟩] rfl ⟨.inl ⟨rfl, rfl⟩, .inl ⟨rfl, rfl⟩, trivial⟩ 2 rfl (by decide)
  obtain ⟨aa, na, ca, wA, hrun, SA⟩ := S9.app OL ((Below.refl _ w22).alloc (Nat.le_refl _) _) (by simp) (show _ ≤ 2 from Nat.le_refl _) (by decide)
  have HR2 := Lib.hid hrun
  obtain ⟨⟨d1, d2⟩, ⟨d3, d4⟩, -⟩ := S9.c
  clear hrun S9 OL
  have hfl := ent_fl a b c d e f g
  unfold nId nTitle nUpd nName nCont nSum at hfl
  rw [← hfl] at SA
  clear hfl
  have hFE : FEv wA.heap.size (flT (entT a b c d e f g)) (.slice aa na ca) wA := ⟨SA.own.reads, Nat.le_refl _, SZ.out.1, SZ.out.2.1, SZ.out.2.2, SA.own.cap⟩
  have HFD := Lib.hid (atom_Feed wA.heap.size (flT (entT a b c d e f g)) (.slice aa na ca) wA hFE)
  have HBA := Lib.hid SA.be
  clear hFE SA
  go_wp2_with (first
      | (at_builtin; refine wpList_append_run rfl _ _ _ _ rfl _ _ rfl rfl _ _ HR.out ?_; clear HR)
      | (at_builtin; refine wpList_append_run rfl _ _ _ _ rfl _ _ rfl rfl _ _ HR2.out ?_; clear HR2))
  clear d1 d2 d3 d4
  obtain ⟨hf1, hf2⟩ := ent_feed a b c d e f g
  rw [hf1, hf2] at HFD
  clear hf1 hf2
  refine (HFD.out).mono ?_
  rintro r wB ⟨v7, rfl, hraw, hb7⟩
  obtain ⟨vi, rfl, hown⟩ := hraw
  generalize headTT _ = hx at hown ⊢
  obtain ⟨g1, cp, rfl, hcl, hgl⟩ := own_one hown
  have HB7 := Lib.hid (HBA.out.trans (hb7.mono HBA.out.size))
  have i0 : wB.cell? ⟨g1, 0, none⟩ = some (.string a) := hcl 0 _ rfl
  have i1 : wB.cell? ⟨g1, 1, none⟩ = some (.string b) := hcl 1 _ rfl
  have i2 : wB.cell? ⟨g1, 2, none⟩ = some (.string c) := hcl 2 _ rfl
  have i3 : wB.cell? ⟨g1, 3, none⟩ = some (.string e) := hcl 3 _ rfl
  have i4 : wB.cell? ⟨g1, 4, none⟩ = some (.string (if emptyB f then g else f)) := hcl 4 _ rfl
  have i5 : wB.cell? ⟨g1, 5, none⟩ = some (.string (if emptyB d then ⟨#[]⟩ else d)) := hcl 5 _ rfl
  have i6 : wB.cell? ⟨g1, 6, none⟩ = some (.int .i8 (if emptyB d then 0 else 2)) := hcl 6 _ rfl
  have HBZ := Lib.hid (fun (W : World) (hW : Below wB.heap.size wB W) => HB7.out.trans (hW.mono HB7.out.size))
  have hbR : Below wB.heap.size wB ((wB.alloc (.cells (rawC 3 hx (.slice (some ⟨g1, 0, none⟩) 1 cp)) 50)).alloc (.cells #[.string a, .string b, .string c, .string e, .string (if emptyB f then g else f), .string (if emptyB d then ⟨#[]⟩ else d), .int .i8 (if emptyB d then 0 else 2)] 47)) := ((Below.refl _ wB).alloc (Nat.le_refl _) _).alloc (by simp) _
  have HBR := Lib.hid hbR
  clear hown hcl hb7 HFD hbR HB7 HBA
  have ta := toL_self a
  have tb := toL_self b
  have tc := toL_self c
  have td := toL_self d
  have te := toL_self e
  have tf := toL_self f
  have tg := toL_self g
  unfold rawC
  unfold rawC at HBR
  cases hfe : emptyB f <;> cases hde : emptyB d
  all_goals
    simp only [hfe, hde, if_true, if_false, Bool.false_eq_true] at i4 i5 i6 HBR
    go_wp2_with fail
    refine (ref22_Empty f _ hf0).mono ?_
    rintro r wE ⟨rfl, rfl⟩
    rw [hfe]
    go_wp2_with fail
    refine (ref22_Empty d _ hd0).mono ?_
    rintro r wE ⟨rfl, rfl⟩
    rw [hde]
    go_wp2_with fail
    refine (HW.out _).mono ?_
    rintro r wz ⟨rfl, hbz⟩
    go_wp2_with fail
    go_ret
    exact ⟨rfl, (HBZ.out _ HBR.out).trans (hbz.mono (by have := (HBZ.out _ HBR.out).size; exact this))⟩
end Go.Proofs.Yteefopeclfojiaa
