/-
  Parts Tr Itm Itr Rsm Owk Fsm of this seat's texts, in one file: contracts of functions that the law reaches, and the plain laws behind them. No condition.
-/
import Derived.Test.YteefopeclfojiaaG7
import Derived.Test.YteefopeclfojiaaG8
import Derived.Test.YteefopeclfojiaaG10
import Derived.Test.YteefopeclfojiaaG6
import Derived.Deep.QuietTactic
import Derived.BigQuiet
import Derived.Test.YteefopeclfojiaaG4
/- 
  Layer 16 in plain terms: events that are whole are those of a tree; what is found of a tree.
 -/
namespace Go.Proofs.Yteefopeclfojiaa
open Go.RowKit
abbrev NmT : Type := ByteArray × ByteArray
/-- elements and texts side by side. -/
inductive Fo where
  | nil : Fo
  | txt : ByteArray → Fo → Fo
  | elt : NmT → List AtT → Fo → Fo → Fo
def evS (n : NmT) (a : List AtT) : Evt := ⟨0, n, a, ⟨#[]⟩⟩
def evE (n : NmT) : Evt := ⟨1, n, [], ⟨#[]⟩⟩
def evT (t : ByteArray) : Evt := ⟨2, (⟨#[]⟩, ⟨#[]⟩), [], t⟩
/-- its events. -/
def Fo.fl : Fo → List Evt
  | .nil => []
  | .txt t r => evT t :: r.fl
  | .elt n a ks r => evS n a :: (ks.fl ++ evE n :: r.fl)
def Fo.sz : Fo → Nat
  | .nil => 0
  | .txt _ r => r.sz + 1
  | .elt _ _ ks r => ks.sz + r.sz + 2
/-- its text. -/
def Fo.tx : Fo → List Int
  | .nil => []
  | .txt t r => nums t ++ r.tx
  | .elt _ _ ks r => ks.tx ++ r.tx
/-- an element: its name, its attributes, what it holds. -/
abbrev KidT : Type := NmT × List AtT × Fo
def Fo.kids : Fo → List KidT
  | .nil => []
  | .txt _ r => r.kids
  | .elt n a ks r => (n, a, ks) :: r.kids
/-- where they begin. -/
def Fo.offs : Fo → Nat → List Nat
  | .nil, _ => []
  | .txt _ r, o => r.offs (o + 1)
  | .elt _ _ ks r, o => o :: r.offs (o + ks.sz + 2)
theorem fl_len : ∀ F : Fo, F.fl.length = F.sz
  | .nil => rfl
  | .txt _ r => by rw [Fo.fl, Fo.sz, List.length_cons, fl_len r]
  | .elt _ _ ks r => by rw [Fo.fl, Fo.sz, List.length_cons, List.length_append, List.length_cons, fl_len ks, fl_len r]; omega
theorem nums_nil : nums ⟨#[]⟩ = [] := by simp [nums]
theorem txsL_fl : ∀ F : Fo, txsL F.fl = F.tx
  | .nil => rfl
  | .txt t r => by
    have := txsL_fl r
    unfold txsL at this ⊢
    rw [Fo.fl, Fo.tx, List.flatMap_cons, this]; rfl
  | .elt n a ks r => by
    have h1 := txsL_fl ks
    have h2 := txsL_fl r
    unfold txsL at h1 h2 ⊢
    rw [Fo.fl, Fo.tx, List.flatMap_cons, List.flatMap_append, List.flatMap_cons, h1, h2, show (evS n a).tx = ⟨#[]⟩ from rfl, show (evE n).tx = ⟨#[]⟩ from rfl, nums_nil, List.nil_append, List.nil_append]
/-- where elements end, as they lie from o on. -/
def Lay (E : Nat → Option Nat) : Nat → Fo → Prop
  | _, .nil => True
  | o, .txt _ r => E o = none ∧ Lay E (o + 1) r
  | o, .elt _ _ ks r => E o = some (o + 1 + ks.sz) ∧ Lay E (o + 1) ks ∧ E (o + 1 + ks.sz) = none ∧ Lay E (o + ks.sz + 2) r
theorem lay_congr {E E' : Nat → Option Nat} : ∀ (F : Fo) (o : Nat), (∀ q, o ≤ q → q < o + F.sz → E' q = E q) → Lay E o F → Lay E' o F
  | .nil, _, _, _ => trivial
  | .txt _ r, o, h, hl => by
    rw [Fo.sz] at h
    exact ⟨(h o (Nat.le_refl _) (by omega)).trans hl.1, lay_congr r (o + 1) (fun q h1 h2 => h q (by omega) (by omega)) hl.2⟩
  | .elt _ _ ks r, o, h, hl => by
    rw [Fo.sz] at h
    obtain ⟨h1, h2, h3, h4⟩ := hl
    exact ⟨(h o (Nat.le_refl _) (by omega)).trans h1, lay_congr ks (o + 1) (fun q h5 h6 => h q (by omega) (by omega)) h2, (h _ (by omega) (by omega)).trans h3, lay_congr r (o + ks.sz + 2) (fun q h5 h6 => h q (by omega) (by omega)) h4⟩
theorem kidF_lay {E : Nat → Option Nat} : ∀ (F : Fo) (o f e : Nat), Lay E o F → e = o + F.sz → F.sz ≤ f → kidF E e f o = F.offs o
  | .nil, o, f, e, _, he, _ => by
    rw [Fo.sz] at he
    cases f with
    | zero => rfl
    | succ f => rw [kidF, if_neg (by omega)]; rfl
  | .txt _ r, o, f, e, hl, he, hf => by
    rw [Fo.sz] at he hf
    obtain ⟨f, rfl⟩ : ∃ g, f = g + 1 := ⟨f - 1, by omega⟩
    rw [kidF, if_pos (by omega), hl.1]
    exact kidF_lay r (o + 1) f e hl.2 (by omega) (by omega)
  | .elt n a ks r, o, f, e, hl, he, hf => by
    rw [Fo.sz] at he hf
    obtain ⟨f, rfl⟩ : ∃ g, f = g + 1 := ⟨f - 1, by omega⟩
    obtain ⟨h1, h2, h3, h4⟩ := hl
    rw [kidF, if_pos (by omega), h1, Fo.offs]
    simp only
    rw [show o + 1 + ks.sz + 1 = o + ks.sz + 2 by omega, kidF_lay r (o + ks.sz + 2) f e h4 (by omega) (by omega)]
/-- an element lies at p. -/
structure OnT (es : List Evt) (E : Nat → Option Nat) (p : Nat) (T : KidT) : Prop where
  ev : (es.drop p).take (T.2.2.sz + 2) = evS T.1 T.2.1 :: (T.2.2.fl ++ [evE T.1])
  en : E p = some (p + 1 + T.2.2.sz)
  ly : Lay E (p + 1) T.2.2
/-- two rows, member by member. -/
inductive Both {α β : Type} (R : α → β → Prop) : List α → List β → Prop where
  | nil : Both R [] []
  | cons {a : α} {b : β} {l : List α} {m : List β} : R a b → Both R l m → Both R (a :: l) (b :: m)
theorem take_app {α : Type} {a b l : List α} {n : Nat} (hn : n = a.length + b.length) (h : l.take n = a ++ b) : l.take a.length = a ∧ (l.drop a.length).take b.length = b := by
  have h1 := congrArg (List.take a.length) h
  rw [List.take_take, List.take_left', Nat.min_eq_left (by omega)] at h1
  · refine ⟨h1, ?_⟩
    have h2 := congrArg (List.drop a.length) h
    rw [List.drop_take, List.drop_left'] at h2
    · rw [hn, show a.length + b.length - a.length = b.length by omega] at h2
      exact h2
    · rfl
  · rfl
theorem both_lay {es : List Evt} {E : Nat → Option Nat} : ∀ (F : Fo) (o : Nat), Lay E o F → (es.drop o).take F.sz = F.fl → Both (OnT es E) (F.offs o) F.kids
  | .nil, _, _, _ => .nil
  | .txt t r, o, hl, h => by
    rw [Fo.sz, Fo.fl] at h
    have h1 := take_app (a := [evT t]) (b := r.fl) (by rw [fl_len]; simp; omega) h
    rw [List.length_singleton, List.drop_drop, fl_len] at h1
    exact both_lay r (o + 1) hl.2 h1.2
  | .elt n a ks r, o, hl, h => by
    obtain ⟨h1, h2, h3, h4⟩ := hl
    rw [Fo.sz, Fo.fl] at h
    have h5 := take_app (a := evS n a :: (ks.fl ++ [evE n])) (b := r.fl) (n := ks.sz + r.sz + 2) (by simp [fl_len]; omega) (by rw [h]; simp)
    rw [List.length_cons, List.length_append, List.length_singleton, fl_len, fl_len, List.drop_drop] at h5
    exact .cons ⟨h5.1, h1, h2⟩ (both_lay r (o + ks.sz + 2) h4 h5.2)
section
variable {es : List Evt} {g : Gr} {p : Nat} {T : KidT}
theorem OnT.get (h : OnT es (endO g) p T) : es[p]? = some (evS T.1 T.2.1) := by
  have h1 := congrArg (fun l => l[0]?) h.ev
  simp only [List.getElem?_cons_zero] at h1
  rw [List.getElem?_take, if_pos (by omega), List.getElem?_drop] at h1
  exact h1
theorem OnT.inner (h : OnT es (endO g) p T) : (es.drop (p + 1)).take T.2.2.sz = T.2.2.fl := by
  have h1 := take_app (a := [evS T.1 T.2.1]) (b := T.2.2.fl ++ [evE T.1]) (n := T.2.2.sz + 2) (by simp [fl_len]; omega) h.ev
  rw [List.length_singleton, List.drop_drop, List.length_append, fl_len, List.length_singleton] at h1
  have h2 := take_app (a := T.2.2.fl) (b := [evE T.1]) (n := T.2.2.sz + 1) (by simp [fl_len]) h1.2
  rw [fl_len] at h2
  exact h2.1
theorem OnT.kids (hG : growP es = some g) (h : OnT es (endO g) p T) : kidsP es p = T.2.2.offs (p + 1) := by
  rw [kidsP_of hG h.en]
  unfold kidsL
  exact kidF_lay T.2.2 (p + 1) _ _ h.ly rfl (by omega)
theorem OnT.both (h : OnT es (endO g) p T) : Both (OnT es (endO g)) (T.2.2.offs (p + 1)) T.2.2.kids := both_lay _ _ h.ly h.inner
theorem OnT.text (hG : growP es = some g) (h : OnT es (endO g) p T) : textP es p = T.2.2.tx := by
  rw [textP_of hG h.en, show p + 1 + T.2.2.sz - p = T.2.2.sz + 1 by omega, ← txsL_fl]
  have h1 := take_app (a := evS T.1 T.2.1 :: T.2.2.fl) (b := [evE T.1]) (n := T.2.2.sz + 2) (by simp [fl_len]) (by rw [h.ev]; simp)
  rw [List.length_cons, fl_len] at h1
  rw [h1.1]
  unfold txsL
  rw [List.flatMap_cons, show (evS T.1 T.2.1).tx = ⟨#[]⟩ from rfl, nums_nil, List.nil_append]
theorem OnT.attr (hG : growP es = some g) (h : OnT es (endO g) p T) (nm : NmT) : attrP es p nm = attF T.2.1 nm := by
  unfold attrP
  rw [atP_of hG h.en]
  simp only
  rw [Int.toNat_natCast, h.get]
  rfl
end
/-! rows, member by member -/
theorem Both.filter {α β : Type} {R : α → β → Prop} {P : α → Bool} {Q : β → Bool} {l : List α} {m : List β} (h : Both R l m) (hp : ∀ a b, R a b → P a = Q b) : Both R (l.filter P) (m.filter Q) := by
  induction h with
  | nil => exact .nil
  | cons hr _ ih =>
    rename_i a b l m _
    rw [List.filter_cons, List.filter_cons, hp _ _ hr]
    split
    · exact .cons hr ih
    · exact ih
theorem Both.findSome {α β γ : Type} {R : α → β → Prop} {f : α → Option γ} {k : β → Option γ} {l : List α} {m : List β} (h : Both R l m) (hp : ∀ a b, R a b → f a = k b) : l.findSome? f = m.findSome? k := by
  induction h with
  | nil => rfl
  | cons hr _ ih => rw [List.findSome?_cons, List.findSome?_cons, hp _ _ hr, ih]
theorem Both.map {α β γ : Type} {R : α → β → Prop} {f : α → γ} {k : β → γ} {l : List α} {m : List β} (h : Both R l m) (hp : ∀ a b, R a b → f a = k b) : l.map f = m.map k := by
  induction h with
  | nil => rfl
  | cons hr _ ih => rw [List.map_cons, List.map_cons, hp _ _ hr, ih]
inductive OptB {α β : Type} (R : α → β → Prop) : Option α → Option β → Prop where
  | none : OptB R none none
  | some {a : α} {b : β} : R a b → OptB R (some a) (some b)
theorem Both.head {α β : Type} {R : α → β → Prop} {l : List α} {m : List β} (h : Both R l m) : OptB R l.head? m.head? := by
  cases h with
  | nil => exact .none
  | cons hr _ => exact .some hr
theorem Both.len {α β : Type} {R : α → β → Prop} {l : List α} {m : List β} (h : Both R l m) : l.length = m.length := by
  induction h with
  | nil => rfl
  | cons _ _ ih => rw [List.length_cons, List.length_cons, ih]
theorem Both.get {α β : Type} {R : α → β → Prop} {l : List α} {m : List β} (h : Both R l m) : ∀ {k : Nat} {a : α}, l[k]? = some a → ∃ b, m[k]? = some b ∧ R a b := by
  induction h with
  | nil => intro k a h; simp at h
  | cons hr _ ih =>
    intro k a h
    cases k with
    | zero => simp at h; subst h; exact ⟨_, rfl, hr⟩
    | succ k => simp at h; obtain ⟨b, h1, h2⟩ := ih h; exact ⟨b, by simpa using h1, h2⟩
/-! from whole events to a tree -/
/-- every element that begins within [a, b) ends there, and every end's element begins there. -/
structure Shut (es : List Evt) (E : Nat → Option Nat) (a b : Nat) : Prop where
  le : a ≤ b
  len : b ≤ es.length
  en : ∀ q j, a ≤ q → q < b → E q = some j → j < b
  be : ∀ p q, a ≤ q → q < b → E p = some q → a ≤ p
theorem emB_0 : emB ⟨#[]⟩ = true := by rw [emB_data]; rfl
theorem emB_nil {s : ByteArray} (h : emB s = true) : s = ⟨#[]⟩ := by
  rw [emB_data] at h
  obtain ⟨⟨l⟩⟩ := s
  simp at h
  subst h
  rfl
theorem fld_evS {x : Evt} (h : fldB x = true) (hk : x.k = 0) : x = evS x.n x.at_ ∧ attGo [] x.at_ = true ∧ emB x.n.2 = false := by
  obtain ⟨k, n, a, t⟩ := x
  simp only at hk
  subst hk
  unfold fldB at h
  simp only at h
  rw [if_neg (by decide), if_neg (by decide), if_pos trivial] at h
  simp only [Bool.and_eq_true, Bool.not_eq_true'] at h
  refine ⟨?_, h.1.1, h.1.2⟩
  rw [emB_nil h.2]
  rfl
theorem fld_evE {x : Evt} (h : fldB x = true) (hk : x.k = 1) : x = evE x.n := by
  obtain ⟨k, n, a, t⟩ := x
  simp only at hk
  subst hk
  unfold fldB at h
  simp only at h
  rw [if_neg (by decide), if_pos trivial] at h
  simp only [Bool.and_eq_true, Bool.not_eq_true', List.isEmpty_iff] at h
  rw [emB_nil h.2, h.1.2]
  rfl
theorem fld_evT {x : Evt} (h : fldB x = true) (hk : x.k = 2) : x = evT x.tx ∧ emB x.tx = false := by
  obtain ⟨k, n, a, t⟩ := x
  obtain ⟨n1, n2⟩ := n
  simp only at hk
  subst hk
  unfold fldB at h
  simp only at h
  rw [if_pos trivial] at h
  simp only [Bool.and_eq_true, Bool.not_eq_true', List.isEmpty_iff] at h
  refine ⟨?_, h.2⟩
  rw [emB_nil h.1.1.1, emB_nil h.1.1.2, h.1.2]
  rfl
theorem drop_cons {es : List Evt} {a : Nat} {x : Evt} (h : es[a]? = some x) : es.drop a = x :: es.drop (a + 1) := by
  obtain ⟨h1, h2⟩ := List.getElem?_eq_some_iff.1 h
  rw [List.drop_eq_getElem_cons h1, h2]
theorem tree_of {es : List Evt} {E : Nat → Option Nat} (hN : Nest es E) (hf : ∀ x ∈ es, fldB x = true) : ∀ (m a b : Nat), b - a ≤ m → Shut es E a b → ∃ F : Fo, F.fl = (es.drop a).take (b - a) ∧ Lay E a F
  | 0, a, b, hm, hS => by
    have := hS.le
    exact ⟨.nil, by rw [show b - a = 0 by omega, List.take_zero]; rfl, trivial⟩
  | m + 1, a, b, hm, hS => by
    have hab := hS.le
    have hbl := hS.len
    by_cases e : a = b
    · exact ⟨.nil, by rw [show b - a = 0 by omega, List.take_zero]; rfl, trivial⟩
    · obtain ⟨x, hx⟩ : ∃ x, es[a]? = some x := ⟨_, List.getElem?_eq_getElem (by omega)⟩
      have hfx := hf x (List.mem_of_getElem? hx)
      have hno : x.k ≠ 0 → E a = none := fun hk => by
        cases hE : E a with
        | none => rfl
        | some j =>
          have := (hN.start a).2 ⟨j, hE⟩
          rw [hx] at this
          exact absurd (by simpa using this) hk
      by_cases h0 : x.k = 0
      · obtain ⟨j, hj⟩ := (hN.start a).1 (by rw [hx, ← h0]; rfl)
        obtain ⟨haj, hjl, x', y, hx', hy, -, hyk, hxy⟩ := hN.lt a j hj
        rw [hx] at hx'
        cases hx'
        have hjb := hS.en a j (Nat.le_refl _) (by omega) hj
        obtain ⟨ks, hk1, hk2⟩ := tree_of hN hf m (a + 1) j (by omega) ⟨by omega, by omega, fun q j' h1 h2 h3 => by
          rcases hN.lam a j q j' hj h3 (by omega) with h4 | h4 <;> omega, fun p q h1 h2 h3 => by
          have h4 := hS.be p q (by omega) (by omega) h3
          have h5 : p ≠ a := fun e => by
            subst e
            rw [hj] at h3
            injection h3 with h3
            omega
          omega⟩
        obtain ⟨r, hr1, hr2⟩ := tree_of hN hf m (j + 1) b (by omega) ⟨by omega, by omega, fun q j' h1 h2 h3 => hS.en q j' (by omega) h2 h3, fun p q h1 h2 h3 => by
          have h4 := hS.be p q (by omega) h2 h3
          have h5 : p ≠ a := fun e => by
            subst e
            rw [hj] at h3
            injection h3 with h3
            omega
          rcases hN.lam a j p q hj h3 (by omega) with h6 | h6 <;> omega⟩
        have hks : ks.sz = j - (a + 1) := by rw [← fl_len, hk1, List.length_take, List.length_drop]; omega
        refine ⟨.elt x.n x.at_ ks r, ?_, ?_, hk2, ?_, ?_⟩
        · have hye := fld_evE (hf y (List.mem_of_getElem? hy)) hyk
          rw [← hxy] at hye
          rw [Fo.fl, hk1, hr1, drop_cons hx, show b - a = (j - (a + 1)) + (1 + (b - (j + 1))) + 1 by omega, List.take_succ_cons, ← (fld_evS hfx h0).1, List.take_add, List.drop_drop, show a + 1 + (j - (a + 1)) = j by omega, drop_cons hy, ← hye, Nat.add_comm 1, List.take_succ_cons]
        · rw [hj, hks]; congr 1; omega
        · rw [show a + 1 + ks.sz = j by omega]
          cases hE : E j with
          | none => rfl
          | some j' =>
            have := (hN.start j).2 ⟨j', hE⟩
            rw [hy] at this
            have : y.k = 0 := by simpa using this
            omega
        · rw [show a + ks.sz + 2 = j + 1 by omega]; exact hr2
      · by_cases h2 : x.k = 2
        · obtain ⟨r, hr1, hr2⟩ := tree_of hN hf m (a + 1) b (by omega) ⟨by omega, by omega, fun q j' h1 h2 h3 => hS.en q j' (by omega) h2 h3, fun p q h1 h2 h3 => by
            have h4 := hS.be p q (by omega) h2 h3
            have h5 : p ≠ a := fun e => by
              subst e
              rw [hno h0] at h3
              cases h3
            omega⟩
          refine ⟨.txt x.tx r, ?_, hno h0, hr2⟩
          rw [Fo.fl, hr1, drop_cons hx, show b - a = (b - (a + 1)) + 1 by omega, List.take_succ_cons, ← (fld_evT hfx h2).1]
        · obtain ⟨p, hp⟩ := hN.surj a x hx h0 h2
          have h1 := (hN.lt p a hp).1
          have h3 := hS.be p a (Nat.le_refl _) (by omega) hp
          omega
/-- the fields are right, no two texts lie side by side. -/
def Wf : Bool → Fo → Prop
  | _, .nil => True
  | p, .txt t r => p = false ∧ emB t = false ∧ Wf true r
  | _, .elt n a ks r => attGo [] a = true ∧ emB n.2 = false ∧ Wf false ks ∧ Wf false r
theorem wf_weak : ∀ {F : Fo}, Wf true F → Wf false F
  | .nil, _ => trivial
  | .txt _ _, h => absurd h.1 (by decide)
  | .elt _ _ _ _, h => h
theorem grun_adj {es : List Evt} : ∀ (l : List Evt) (i : Nat) (g gf : Gr), es.drop i = l → grun es i l g = some gf → ∀ q x, i ≤ q → es[q]? = some x → x.k = 2 → (es[q - 1]?).map Evt.k ≠ some 2
  | [], i, g, gf, hd, _, q, x, hq, hx, _ => by
    have h1 := (List.getElem?_eq_some_iff.1 hx).1
    have h2 := List.drop_eq_nil_iff.1 hd
    omega
  | y :: r, i, g, gf, hd, h, q, x, hq, hx, hk => by
    rw [grun] at h
    obtain ⟨g1, h1, h2⟩ := Option.bind_eq_some_iff.1 h
    obtain ⟨hy, hd1⟩ := drop_head hd
    by_cases e : q = i
    · subst e
      rw [hx] at hy
      cases hy
      obtain ⟨op, ends, deep⟩ := g
      obtain ⟨-, -, h3⟩ := gstep_iff.1 h1
      rcases h3 with ⟨h3, -⟩ | ⟨-, h3, -⟩ | ⟨h3, -⟩
      · omega
      · exact h3
      · omega
    · exact grun_adj r (i + 1) g1 gf hd1 h2 q x (by omega) hx hk
theorem wf_of {es : List Evt} (hf : ∀ x ∈ es, fldB x = true) (hadj : ∀ (q : Nat) (x : Evt), es[q]? = some x → x.k = 2 → (es[q - 1]?).map Evt.k ≠ some 2) : ∀ (F : Fo) (a : Nat) (p : Bool), (es.drop a).take F.sz = F.fl → 0 < a → (p = true → (es[a - 1]?).map Evt.k = some 2) → Wf p F
  | .nil, _, _, _, _, _ => trivial
  | .txt t r, a, p, h, ha, hp => by
    rw [Fo.sz, Fo.fl] at h
    have h1 := take_app (a := [evT t]) (b := r.fl) (by rw [fl_len]; simp; omega) h
    rw [List.length_singleton, List.drop_drop, fl_len] at h1
    have hx : es[a]? = some (evT t) := by
      have := congrArg (fun l => l[0]?) h1.1
      simpa [List.getElem?_take] using this
    refine ⟨?_, (fld_evT (hf _ (List.mem_of_getElem? hx)) rfl).2, wf_of hf hadj r (a + 1) true h1.2 (by omega) fun _ => by rw [Nat.add_sub_cancel, hx]; rfl⟩
    cases p with
    | false => rfl
    | true => exact absurd (hp rfl) (hadj a _ hx rfl)
  | .elt n at_ ks r, a, p, h, ha, hp => by
    rw [Fo.sz, Fo.fl] at h
    have h5 := take_app (a := evS n at_ :: (ks.fl ++ [evE n])) (b := r.fl) (n := ks.sz + r.sz + 2) (by simp [fl_len]; omega) (by rw [h]; simp)
    rw [List.length_cons, List.length_append, List.length_singleton, fl_len, fl_len, List.drop_drop] at h5
    have h6 := take_app (a := [evS n at_]) (b := ks.fl ++ [evE n]) (n := ks.sz + 2) (by simp [fl_len]; omega) h5.1
    rw [List.length_singleton, List.drop_drop, List.length_append, fl_len, List.length_singleton] at h6
    have h7 := take_app (a := ks.fl) (b := [evE n]) (n := ks.sz + 1) (by simp [fl_len]) h6.2
    rw [fl_len, List.length_singleton, List.drop_drop] at h7
    have hx : es[a]? = some (evS n at_) := by
      have := congrArg (fun l => l[0]?) h6.1
      simpa [List.getElem?_take] using this
    have hy : es[a + 1 + ks.sz]? = some (evE n) := by
      have := congrArg (fun l => l[0]?) h7.2
      simpa [List.getElem?_take] using this
    have h8 := fld_evS (hf _ (List.mem_of_getElem? hx)) rfl
    refine ⟨h8.2.1, h8.2.2, wf_of hf hadj ks (a + 1) false h7.1 (by omega) fun h => (by cases h), wf_of hf hadj r (a + ks.sz + 2) false (by rw [← h5.2]; rfl) (by omega) fun h => (by cases h)⟩
/-- an element by itself, its fields right. -/
def WfT (T : KidT) : Prop := attGo [] T.2.1 = true ∧ emB T.1.2 = false ∧ Wf false T.2.2
def flT (T : KidT) : List Evt := evS T.1 T.2.1 :: (T.2.2.fl ++ [evE T.1])
theorem sz_zero : ∀ {F : Fo}, F.sz = 0 → F = .nil
  | .nil, _ => rfl
  | .txt _ _, h => by rw [Fo.sz] at h; omega
  | .elt _ _ _ _, h => by rw [Fo.sz] at h; omega
/-- whole events are those of an element. -/
theorem whole_tree {es : List Evt} {g : Gr} (h : growP es = some g) : ∃ T : KidT, es = flT T ∧ WfT T ∧ OnT es (endO g) 0 T := by
  have hN := (growP_nest h).1
  have hf := growP_fld h
  obtain ⟨hlast, hpos⟩ := growP_last h
  have hrun := (growP_run h).1
  have hadj := fun (q : Nat) (x : Evt) (hx : es[q]? = some x) (hk : x.k = 2) => grun_adj es 0 _ _ rfl hrun q x (Nat.zero_le _) hx hk
  obtain ⟨F, hF1, hF2⟩ := tree_of hN hf es.length 0 es.length (by omega) ⟨by omega, Nat.le_refl _, fun q j _ _ h3 => (hN.lt q j h3).2.1, fun p q _ _ _ => Nat.zero_le _⟩
  rw [List.drop_zero, Nat.sub_zero, List.take_length] at hF1
  have hsz : F.sz = es.length := by rw [← fl_len, hF1]
  match F, hF1, hF2, hsz with
  | .nil, _, _, hsz => rw [Fo.sz] at hsz; omega
  | .txt _ _, _, hF2, _ => rw [hF2.1] at hlast; cases hlast
  | .elt n a ks r, hF1, hF2, hsz =>
    obtain ⟨h1, h2, h3, h4⟩ := hF2
    rw [Fo.sz] at hsz
    rw [hlast] at h1
    injection h1 with h1
    obtain rfl : r = .nil := sz_zero (by omega)
    have hes : es = flT (n, a, ks) := by rw [← hF1]; rfl
    have hx : es[0]? = some (evS n a) := by rw [hes]; rfl
    have h8 := fld_evS (hf _ (List.mem_of_getElem? hx)) rfl
    have hin : (es.drop 1).take ks.sz = ks.fl := by
      rw [hes]
      unfold flT
      rw [List.drop_succ_cons, List.drop_zero, List.take_left']
      exact fl_len ks
    refine ⟨(n, a, ks), hes, ⟨h8.2.1, h8.2.2, wf_of hf hadj ks 1 false hin (by omega) fun h => (by cases h)⟩, ?_, ?_, h2⟩
    · rw [List.drop_zero, List.take_of_length_le (by show es.length ≤ ks.sz + 2; rw [Fo.sz] at hsz; omega)]
      exact hes
    · rw [hlast, h1]
/-! from a tree to whole events -/
theorem run_fo {es : List Evt} : ∀ (F : Fo) (o : Nat) (rest : List Evt) (g : Gr) (p : Bool), es.drop o = F.fl ++ rest → 0 < o → Wf p F → (p = false → (es[o - 1]?).map Evt.k ≠ some 2) → g.op ≠ [] → (∀ q, o ≤ q → endO g q = none) →
    ∃ g', grun es o (F.fl ++ rest) g = grun es (o + F.sz) rest g' ∧ g'.op = g.op ∧ (∀ q, q < o ∨ o + F.sz ≤ q → endO g' q = endO g q) ∧ Lay (endO g') o F
  | .nil, o, rest, g, p, hd, h0, hw, hp, ho, hn => ⟨g, rfl, rfl, fun _ _ => rfl, trivial⟩
  | .txt t r, o, rest, g, p, hd, h0, hw, hp, ho, hn => by
    obtain ⟨hw1, hw2, hw3⟩ := hw
    obtain ⟨hx, hd1⟩ := drop_head (show es.drop o = evT t :: (r.fl ++ rest) from hd)
    have hs : gstep es o (evT t) g = some g := by
      obtain ⟨op, ends, deep⟩ := g
      refine gstep_iff.2 ⟨?_, fun h => ho h.1, .inr (.inl ⟨rfl, hp hw1, rfl⟩)⟩
      show (emB ⟨#[]⟩ && emB ⟨#[]⟩ && true && !emB t) = true
      rw [hw2, emB_0]
      rfl
    obtain ⟨g', h1, h2, h3, h4⟩ := run_fo r (o + 1) rest g true hd1 (by omega) hw3 (fun h => by cases h) ho (fun q hq => hn q (by omega))
    refine ⟨g', ?_, h2, fun q hq => h3 q (by rw [Fo.sz] at hq; omega), ?_, h4⟩
    · rw [Fo.fl, List.cons_append, grun, hs, Option.bind_some, h1, Fo.sz, show o + (r.sz + 1) = o + 1 + r.sz by omega]
    · rw [h3 o (.inl (by omega))]; exact hn o (Nat.le_refl _)
  | .elt n a ks r, o, rest, g, p, hd, h0, hw, hp, ho, hn => by
    obtain ⟨hw1, hw2, hw3, hw4⟩ := hw
    obtain ⟨hx, hd1⟩ := drop_head (show es.drop o = evS n a :: (ks.fl ++ evE n :: r.fl ++ rest) from hd)
    rw [List.append_assoc, List.cons_append] at hd1
    obtain ⟨op, ends, deep⟩ := g
    have hs : gstep es o (evS n a) ⟨op, ends, deep⟩ = some ⟨op ++ [(o : Int)], ends, max deep (op.length + 1)⟩ := by
      refine gstep_iff.2 ⟨?_, fun h => ho h.1, .inl ⟨rfl, rfl⟩⟩
      show (attGo [] a && !emB n.2 && emB ⟨#[]⟩) = true
      rw [hw1, hw2, emB_0]
      rfl
    obtain ⟨g2, h1, h2, h3, h4⟩ := run_fo ks (o + 1) (evE n :: (r.fl ++ rest)) ⟨op ++ [(o : Int)], ends, max deep (op.length + 1)⟩ false hd1 (by omega) hw3 (fun _ => by rw [Nat.add_sub_cancel, hx]; show ¬ some (0 : Int) = some 2; decide) (by simp) (fun q hq => hn q (by omega))
    have hd2 : es.drop (o + 1 + ks.sz) = evE n :: (r.fl ++ rest) := by
      rw [← List.drop_drop, hd1, List.drop_left' (fl_len ks)]
    obtain ⟨hy, hd3⟩ := drop_head hd2
    obtain ⟨op2, ends2, deep2⟩ := g2
    simp only at h2
    subst h2
    have hs2 : gstep es (o + 1 + ks.sz) (evE n) ⟨op ++ [(o : Int)], ends2, deep2⟩ = some ⟨op, aPut ends2 (o : Int) (.int .i64 (o + 1 + ks.sz : Nat)), deep2⟩ := by
      refine gstep_iff.2 ⟨?_, fun h => by simp at h, .inr (.inr ⟨rfl, (o : Int), by simp, ?_, by simp⟩)⟩
      · show (!emB n.2 && true && emB ⟨#[]⟩) = true
        rw [hw2, emB_0]
        rfl
      · rw [Int.toNat_natCast, hx]; rfl
    have hE3 := endO_put ⟨op ++ [(o : Int)], ends2, deep2⟩ op o (o + 1 + ks.sz)
    obtain ⟨g4, k1, k2, k3, k4⟩ := run_fo r (o + ks.sz + 2) rest ⟨op, aPut ends2 (o : Int) (.int .i64 (o + 1 + ks.sz : Nat)), deep2⟩ false (by rw [show o + ks.sz + 2 = o + 1 + ks.sz + 1 by omega]; exact hd3) (by omega) hw4 (fun _ => by rw [show o + ks.sz + 2 - 1 = o + 1 + ks.sz by omega, hy]; show ¬ some (1 : Int) = some 2; decide) ho (fun q hq => by
      rw [hE3, if_neg (by omega), h3 q (by omega)]
      exact hn q (by omega))
    refine ⟨g4, ?_, k2, fun q hq => ?_, ?_, ?_, ?_, k4⟩
    · rw [Fo.fl, List.cons_append, grun, hs, Option.bind_some, List.append_assoc, List.cons_append, h1, grun, hs2, Option.bind_some, show o + 1 + ks.sz + 1 = o + ks.sz + 2 by omega, k1, Fo.sz, show o + (ks.sz + r.sz + 2) = o + ks.sz + 2 + r.sz by omega]
    · rw [Fo.sz] at hq
      rw [k3 q (by omega), hE3]
      by_cases e : q = o
      · omega
      · rw [if_neg e, h3 q (by omega)]; rfl
    · rw [k3 o (by omega), hE3, if_pos rfl]
    · refine lay_congr ks (o + 1) (fun q h5 h6 => ?_) h4
      rw [k3 q (by omega), hE3, if_neg (by omega)]
    · rw [k3 _ (by omega), hE3, if_neg (by omega), h3 _ (by omega)]
      exact hn _ (by omega)
/-- an element's events are whole. -/
theorem tree_whole (T : KidT) (hw : WfT T) : ∃ g, growP (flT T) = some g ∧ OnT (flT T) (endO g) 0 T := by
  obtain ⟨n, a, ks⟩ := T
  obtain ⟨hw1, hw2, hw3⟩ := hw
  obtain ⟨es, hes⟩ : ∃ es, flT (n, a, ks) = es := ⟨_, rfl⟩
  have hx : es[0]? = some (evS n a) := by rw [← hes]; rfl
  have hd1 : es.drop 1 = ks.fl ++ [evE n] := by rw [← hes]; rfl
  have hs : gstep es 0 (evS n a) ⟨[], [], 0⟩ = some ⟨[(0 : Int)], [], max 0 (0 + 1)⟩ := by
    refine gstep_iff.2 ⟨?_, fun h => ?_, .inl ⟨rfl, rfl⟩⟩
    · show (attGo [] a && !emB n.2 && emB ⟨#[]⟩) = true
      rw [hw1, hw2, emB_0]
      rfl
    · rcases h.2 with h | h
      · omega
      · exact h rfl
  obtain ⟨g2, h1, h2, h3, h4⟩ := run_fo ks 1 [evE n] ⟨[(0 : Int)], [], max 0 (0 + 1)⟩ false hd1 (by omega) hw3 (fun _ => by rw [hx]; show ¬ some (0 : Int) = some 2; decide) (by simp) (fun q hq => rfl)
  obtain ⟨op2, ends2, deep2⟩ := g2
  simp only at h2
  subst h2
  have hs2 : gstep es (1 + ks.sz) (evE n) ⟨[(0 : Int)], ends2, deep2⟩ = some ⟨[], aPut ends2 ((0 : Nat) : Int) (.int .i64 (1 + ks.sz : Nat)), deep2⟩ := by
    refine gstep_iff.2 ⟨?_, fun h => by simp at h, .inr (.inr ⟨rfl, (0 : Int), by simp, ?_, by simp⟩)⟩
    · show (!emB n.2 && true && emB ⟨#[]⟩) = true
      rw [hw2, emB_0]
      rfl
    · rw [show (0 : Int).toNat = 0 from rfl, hx]; rfl
  have hE3 := endO_put ⟨[(0 : Int)], ends2, deep2⟩ [] 0 (1 + ks.sz)
  have hG : growP es = some ⟨[], aPut ends2 ((0 : Nat) : Int) (.int .i64 (1 + ks.sz : Nat)), deep2⟩ := by
    refine growP_mk ?_ (by rw [← hes]; exact List.cons_ne_nil _ _) rfl
    have : es = evS n a :: (ks.fl ++ [evE n]) := by rw [← hes]; rfl
    have hrun : grun es 0 (evS n a :: (ks.fl ++ [evE n])) ⟨[], [], 0⟩ = some ⟨[], aPut ends2 ((0 : Nat) : Int) (.int .i64 (1 + ks.sz : Nat)), deep2⟩ := by
      rw [grun, hs, Option.bind_some, h1, grun, hs2, Option.bind_some, grun]
    rw [← this] at hrun
    exact hrun
  rw [hes]
  refine ⟨_, hG, ?_, ?_, ?_⟩
  · rw [List.drop_zero, List.take_of_length_le (by rw [← hes]; show (flT (n, a, ks)).length ≤ ks.sz + 2; unfold flT; simp [fl_len]), ← hes]; rfl
  · rw [hE3, if_pos rfl, Nat.zero_add]
  · refine lay_congr ks 1 (fun q h5 h6 => ?_) h4
    rw [hE3, if_neg (by omega)]
end Go.Proofs.Yteefopeclfojiaa
/- 
  Rows of items; what a raw feed is.
 -/
namespace Go.Proofs.Yteefopeclfojiaa
open Go.RowKit
def itC (x : Itm) : List Value := [.string x.id, .string x.title, .string x.link, .string x.author, .string x.content, .string x.date, .int .i8 x.kind]
def itsC (l : List Itm) : List Value := l.flatMap itC
theorem itsC_snoc (l : List Itm) (x : Itm) : itsC (l ++ [x]) = itsC l ++ itC x := by simp [itsC]
theorem itsC_app (l m : List Itm) : itsC (l ++ m) = itsC l ++ itsC m := by simp [itsC]
theorem itsC_len : ∀ l : List Itm, (itsC l).length = l.length * 7
  | [] => rfl
  | x :: l => by
    have := itsC_len l
    unfold itsC at this ⊢
    rw [List.flatMap_cons, List.length_append, this, List.length_cons]
    show 7 + _ = _
    omega
theorem itC_one (x : Itm) : ∀ u ∈ itC x, u.oneCell' = true := by
  intro u hu
  unfold itC at hu
  simp only [List.mem_cons, List.not_mem_nil, or_false] at hu
  rcases hu with rfl | rfl | rfl | rfl | rfl | rfl | rfl <;> rfl
theorem itsC_at : ∀ (l : List Itm) (k : Nat) (x : Itm), l[k]? = some x → ∀ j u, (itC x)[j]? = some u → (itsC l)[k * 7 + j]? = some u
  | [], _, _, h, _, _, _ => by simp at h
  | y :: l, 0, x, h, j, u, hj => by
    simp at h
    subst h
    unfold itsC
    rw [List.flatMap_cons, Nat.zero_mul, Nat.zero_add, List.getElem?_append_left (List.getElem?_eq_some_iff.1 hj).1]
    exact hj
  | y :: l, k + 1, x, h, j, u, hj => by
    have ih := itsC_at l k x (by simpa using h) j u hj
    unfold itsC at ih ⊢
    rw [List.flatMap_cons, List.getElem?_append_right (by show 7 ≤ _; omega), show (k + 1) * 7 + j - (itC y).length = k * 7 + j by show (k + 1) * 7 + j - 7 = _; omega]
    exact ih
theorem infoItm : (Try.prog.info? 47).map (fun i => (i.zero, i.size, i.bytes)) = some (some (.agg #[.string ⟨#[]⟩, .string ⟨#[]⟩, .string ⟨#[]⟩, .string ⟨#[]⟩, .string ⟨#[]⟩, .string ⟨#[]⟩, .int .i8 0]), 7, 104) := by kernel_rfl
/-- a row of items of the call's own. -/
def OwnX (base : Nat) (w : World) (v : Value) (l : List Itm) : Prop := w.ownsRow base 47 7 v l.length (itsC l)
theorem OwnX.nil (base : Nat) (w : World) : OwnX base w (.slice none 0 0) [] := World.ownsRow_nil _ _ _ _
theorem OwnX.below {base : Nat} {w w' : World} {v : Value} {l : List Itm} (h : OwnX base w v l) {C : Nat} (hb : Below C w w') (hC : w.heap.size ≤ C) : OwnX base w' v l := own_below h hb hC
theorem OwnX.form {base : Nat} {w : World} {v : Value} {l : List Itm} (h : OwnX base w v l) : ∃ a n c, v = .slice a n c := own_slice h
/-- 'append(l, x)' onto a row of the call's own. -/
theorem OwnX.app {base : Nat} {w : World} {v : Value} {l : List Itm} (h : OwnX base w v l) (x : Itm) (hbase : base ≤ w.heap.size) (hn : l.length < 1000000) :
    ∃ v' w', (Builtin.append_ #[48, 48] 48 #[v, .slice (some ⟨w.heap.size, 0, none⟩) 1 1]).run Try.prog (w.alloc (.cells #[.string x.id, .string x.title, .string x.link, .string x.author, .string x.content, .string x.date, .int .i8 x.kind] 47)) = .ok v' w' ∧ OwnX base w' v' (l ++ [x]) ∧
      (w.alloc (.cells #[.string x.id, .string x.title, .string x.link, .string x.author, .string x.content, .string x.date, .int .i8 x.kind] 47)).grownBy w' v.ownBlock := by
  obtain ⟨i0, hi, hz0, hz1, hz2⟩ := info_parts infoItm
  obtain ⟨v', w', hrun, k1, k2, _⟩ := run_append_own (P := Try.prog) (w.alloc (.cells #[.string x.id, .string x.title, .string x.link, .string x.author, .string x.content, .string x.date, .int .i8 x.kind] 47)) base 48 48 47 i0 _ 7 104 Try.underlying48 hi hz0 hz1 hz2 rfl (by decide) v l.length _ (show World.ownsRow _ _ _ _ _ _ _ from World.ownsRow.alloc h _) ⟨w.heap.size, 0, none⟩ 1 1 (itC x) rfl
    (fun j u hj => by
      rw [addr0, World.cell?_alloc_mark]
      simpa [itC] using hj)
    (itC_one x) (by unfold maxLen; omega) (by omega) (by simp; omega)
  refine ⟨v', w', hrun, ?_, k2⟩
  unfold OwnX
  rw [itsC_snoc, List.length_append]
  exact k1
/-- a raw feed's cells. -/
def rawC (f : Int) (H : Itm) (v : Value) : Array Value := #[.int .i8 f, .string H.id, .string H.title, .string H.link, .string H.author, .string H.content, .string H.date, .int .i8 H.kind, v]
/-- a raw feed. -/
structure RawT where
  fmt : Int
  head : Itm
  items : List Itm
/-- a raw feed by value, its items of the call's own. -/
def RawS (base : Nat) (w : World) (R : RawT) (u : Value) : Prop := ∃ v, u = .agg (rawC R.fmt R.head v) ∧ OwnX base w v R.items
def rawNone : RawT := ⟨0, Itm.none, []⟩
theorem grown_row {W W' : World} {base : Nat} {e : TypeId} {size : Nat} {v : Value} {n : Nat} {xs : List Value} (hrow : W.ownsRow base e size v n xs) (hg : W.grownBy W' v.ownBlock) {b : Nat} {T : TypeId} {cs : Array Value} (h : RowAt W b T cs) (hT : T ≠ e) : RowAt W' b T cs := by
  refine (hg.block b h.lt fun e2 => ?_).trans h
  rcases hrow.2 with ⟨rfl, _⟩ | ⟨g, cap, cur, rfl, _, hg', _⟩
  · cases e2
  · simp only [Value.ownBlock, Option.some_inj] at e2
    subst e2
    unfold RowAt at h
    rw [hg'] at h
    injection h with h
    injection h with h1 h2
    exact hT h2.symm
theorem grown_keepsT {Ts : List TypeId} {W W' : World} {base : Nat} {e : TypeId} {size : Nat} {v : Value} {n : Nat} {xs : List Value} (hrow : W.ownsRow base e size v n xs) (hg : W.grownBy W' v.ownBlock) (hT : e ∉ Ts) : KeepsT Ts W W' := by
  refine ⟨hg.size, fun k c T fz hT' hk => hg.block k (Array.getElem?_eq_some_iff.1 hk).1 fun e2 => ?_⟩
  rcases hrow.2 with ⟨rfl, _⟩ | ⟨g, cap, cur, rfl, _, hg', _⟩
  · cases e2
  · simp only [Value.ownBlock, Option.some_inj] at e2
    subst e2
    rw [hg'] at hk
    injection hk with hk
    injection hk with h1 h2
    exact hT (h2 ▸ hT')
theorem KeepsT.setRow {Ts : List TypeId} {W : World} {b : Nat} {T : TypeId} {cs : Array Value} (hb : RowAt W b T cs) (hT : T ∉ Ts) (i : Nat) (u : Value) : KeepsT Ts W (W.setCell ⟨b, i, none⟩ u) :=
  ⟨by simp, fun k c T' fz hT' hk => heap_setCell_other W ⟨b, i, none⟩ k u (fun e => by
    subst e
    rw [show W.heap[k]? = _ from hb] at hk
    injection hk with hk
    injection hk with h1 h2
    exact hT (h2 ▸ hT'))⟩
theorem OwnX.setFar {base : Nat} {w : World} {v : Value} {l : List Itm} (h : OwnX base w v l) {b : Nat} (hb : b < base) (i : Nat) (u : Value) : OwnX base (w.setCell ⟨b, i, none⟩ u) v l := ownsRow_setCell_below h hb u
theorem RowAt.far {W : World} {b : Nat} {T : TypeId} {cs : Array Value} (h : RowAt W b T cs) {p : Nat} (hne : b ≠ p) (i : Nat) (v : Value) : RowAt (W.setCell ⟨p, i, none⟩ v) b T cs := (heap_setCell_other W ⟨p, i, none⟩ b v hne).trans h
theorem RowAt.putFar {W : World} {b : Nat} {T : TypeId} {cs : Array Value} (h : RowAt W b T cs) {l : Nat} {o o' : Obj} (ho : W.heap[l]? = some o) (hc : o.isCells = false) : RowAt (W.putObj l o') b T cs := (World.putObj_heap_other (fun e => by
    subst e
    rw [show W.heap[b]? = _ from h] at ho
    injection ho with ho
    subst ho
    cases hc)).trans h
theorem RowAt.turn {W W' : World} {B b : Nat} {T : TypeId} {cs : Array Value} (h : RowAt W b T cs) (ht : Turns NoMu B W W') (hb : b < B) : RowAt W' b T cs := by
  obtain ⟨row, hg, hrow⟩ := ht
  refine (hg.block b h.lt fun e => ?_).trans h
  have := (hrow b e.symm).1
  omega
theorem own_turn {W W' : World} {B base : Nat} {e : TypeId} {size : Nat} {v : Value} {n : Nat} {xs : List Value} (hr : W.ownsRow base e size v n xs) (ht : Turns NoMu B W W') : W'.ownsRow base e size v n xs := by
  obtain ⟨row, hg, hrow⟩ := ht
  refine hr.kept hg ?_
  cases hvb : v.ownBlock with
  | none => exact .inl rfl
  | some g =>
    refine .inr fun e => ?_
    obtain ⟨_, o, ho, hc⟩ := hrow g e.symm
    rcases hr.2 with ⟨rfl, _⟩ | ⟨g', cap, cur, rfl, _, hg', _⟩
    · simp [Value.ownBlock] at hvb
    · simp only [Value.ownBlock, Option.some_inj] at hvb
      subst hvb
      rw [hg'] at ho
      cases ho
      rcases hc with hc | hc
      · cases hc
      · exact hc
/-- a raw feed's cells, all set. -/
def World.setRaw (W : World) (b : Nat) (u0 u1 u2 u3 u4 u5 u6 u7 u8 : Value) : World := (((((((((W.setCell ⟨b, 0, none⟩ u0).setCell ⟨b, 1, none⟩ u1).setCell ⟨b, 2, none⟩ u2).setCell ⟨b, 3, none⟩ u3).setCell ⟨b, 4, none⟩ u4).setCell ⟨b, 5, none⟩ u5).setCell ⟨b, 6, none⟩ u6).setCell ⟨b, 7, none⟩ u7).setCell ⟨b, 8, none⟩ u8)
theorem raw_set {W : World} {b : Nat} {T : TypeId} {x0 x1 x2 x3 x4 x5 x6 x7 x8 : Value} (h : RowAt W b T #[x0, x1, x2, x3, x4, x5, x6, x7, x8]) (u0 u1 u2 u3 u4 u5 u6 u7 u8 : Value) :
    RowAt (World.setRaw W b u0 u1 u2 u3 u4 u5 u6 u7 u8) b T #[u0, u1, u2, u3, u4, u5, u6, u7, u8] := by
  unfold World.setRaw
  have h := (((((((((h.set 0 u0).set 1 u1).set 2 u2).set 3 u3).set 4 u4).set 5 u5).set 6 u6).set 7 u7).set 8 u8)
  simpa using h
theorem raw_size (W : World) (b : Nat) (u0 u1 u2 u3 u4 u5 u6 u7 u8 : Value) : (World.setRaw W b u0 u1 u2 u3 u4 u5 u6 u7 u8).heap.size = W.heap.size := by simp [World.setRaw]
theorem raw_other {W : World} {b g : Nat} {T : TypeId} {cs : Array Value} (h : RowAt W g T cs) (hne : g ≠ b) (u0 u1 u2 u3 u4 u5 u6 u7 u8 : Value) : RowAt (World.setRaw W b u0 u1 u2 u3 u4 u5 u6 u7 u8) g T cs := by
  unfold World.setRaw
  exact ((((((((h.far hne 0 u0).far hne 1 u1).far hne 2 u2).far hne 3 u3).far hne 4 u4).far hne 5 u5).far hne 6 u6).far hne 7 u7).far hne 8 u8
theorem raw_below {W0 W : World} {B b : Nat} (h : Below B W0 W) (hb : B ≤ b) (u0 u1 u2 u3 u4 u5 u6 u7 u8 : Value) : Below B W0 (World.setRaw W b u0 u1 u2 u3 u4 u5 u6 u7 u8) := by
  unfold World.setRaw
  exact ((((((((h.setCell (p := ⟨b, 0, none⟩) hb u0).setCell (p := ⟨b, 1, none⟩) hb u1).setCell (p := ⟨b, 2, none⟩) hb u2).setCell (p := ⟨b, 3, none⟩) hb u3).setCell (p := ⟨b, 4, none⟩) hb u4).setCell (p := ⟨b, 5, none⟩) hb u5).setCell (p := ⟨b, 6, none⟩) hb u6).setCell (p := ⟨b, 7, none⟩) hb u7).setCell (p := ⟨b, 8, none⟩) hb u8
theorem raw_own {base : Nat} {w : World} {v : Value} {l : List Itm} (h : OwnX base w v l) {b : Nat} (hb : b < base) (u0 u1 u2 u3 u4 u5 u6 u7 u8 : Value) : OwnX base (World.setRaw w b u0 u1 u2 u3 u4 u5 u6 u7 u8) v l := by
  unfold World.setRaw
  exact ((((((((h.setFar hb 0 u0).setFar hb 1 u1).setFar hb 2 u2).setFar hb 3 u3).setFar hb 4 u4).setFar hb 5 u5).setFar hb 6 u6).setFar hb 7 u7).setFar hb 8 u8
theorem raw_keeps (W : World) (b D : Nat) (hb : b ≠ D) {o : Obj} (ho : W.heap[D]? = some o) (u0 u1 u2 u3 u4 u5 u6 u7 u8 : Value) : (World.setRaw W b u0 u1 u2 u3 u4 u5 u6 u7 u8).heap[D]? = some o := by
  have far : ∀ (W : World) (i : Nat) (u : Value), W.heap[D]? = some o → (W.setCell ⟨b, i, none⟩ u).heap[D]? = some o := fun W i u h => (heap_setCell_other W ⟨b, i, none⟩ D u (Ne.symm hb)).trans h
  unfold World.setRaw
  exact far _ 8 _ (far _ 7 _ (far _ 6 _ (far _ 5 _ (far _ 4 _ (far _ 3 _ (far _ 2 _ (far _ 1 _ (far _ 0 _ ho))))))))
end Go.Proofs.Yteefopeclfojiaa
/- 
  An item more in a raw feed of the call's own.
 -/
namespace Go.Proofs.Yteefopeclfojiaa
open Go.RowKit
/-- append under another name: so that a region that draws takes its run from a hypothesis. -/
def AppV (ts : Array TypeId) (t : TypeId) (vs : Array Value) : Sem Value := Builtin.append_ ts t vs
theorem app_veil (ts : Array TypeId) (t : TypeId) (vs : Array Value) : Builtin.append_ ts t vs = AppV ts t vs := rfl
/-- what is left of a world when an item was put behind. -/
structure RawN (W W' : World) (xb base : Nat) (f : Int) (H : Itm) (L : List Itm) (v' : Value) : Prop where
  row : RowAt W' xb 50 (rawC f H v')
  own : OwnX base W' v' L
  be : ∀ B, B ≤ xb → Below B W W'
  kt : ∀ Ts : List TypeId, 50 ∉ Ts → 47 ∉ Ts → KeepsT Ts W W'
  ko : KeepsOthers W W'
theorem raw_round {W : World} {v : Value} {f : Int} {H : Itm} {L : List Itm} {xb base : Nat} (hrow : RowAt W xb 50 (rawC f H v)) (hown : OwnX base W v L) (hxb : xb < base) (hbase : base ≤ W.heap.size) {w8 : World} (hb8 : Below W.heap.size W w8) (X : Itm) (hn : L.length < 1000000) :
    ∃ a n c w9, w8.cell? ⟨xb, 8, none⟩ = some v ∧ (w8.alloc (.cells #[.string X.id, .string X.title, .string X.link, .string X.author, .string X.content, .string X.date, .int .i8 X.kind] 47)).cell? ⟨xb, 8, none⟩ = some v ∧
      Sem.run Try.prog (AppV #[48, 48] 48 #[v, .slice (some ⟨w8.heap.size, 0, none⟩) 1 1]) (w8.alloc (.cells #[.string X.id, .string X.title, .string X.link, .string X.author, .string X.content, .string X.date, .int .i8 X.kind] 47)) = .ok (.slice a n c) w9 ∧
      w9.cell? ⟨xb, 8, none⟩ = some v ∧ w9.frozen? ⟨xb, 8, none⟩ = false ∧ RawN W (w9.setCell ⟨xb, 8, none⟩ (.slice a n c)) xb base f H (L ++ [X]) (.slice a n c) := by
  have hrow8 := hrow.below hb8 hrow.lt
  have hown8 := hown.below hb8 (Nat.le_refl _)
  have hbase8 := Nat.le_trans hbase hb8.size
  obtain ⟨v', w9, hrun, hown9, hg⟩ := hown8.app X hbase8 hn
  obtain ⟨a, n, c, rfl⟩ := hown9.form
  have hba : Below w8.heap.size w8 (w8.alloc (.cells #[.string X.id, .string X.title, .string X.link, .string X.author, .string X.content, .string X.date, .int .i8 X.kind] 47)) := (Below.refl _ w8).alloc (Nat.le_refl _) _
  have hrowa := hrow8.alloc (.cells #[.string X.id, .string X.title, .string X.link, .string X.author, .string X.content, .string X.date, .int .i8 X.kind] 47)
  have howna : OwnX base (w8.alloc (.cells #[.string X.id, .string X.title, .string X.link, .string X.author, .string X.content, .string X.date, .int .i8 X.kind] 47)) v L := hown8.below hba (Nat.le_refl _)
  have hrow9 := grown_row howna hg hrowa (by decide)
  refine ⟨a, n, c, w9, hrow8.blk.cell 8 rfl, hrowa.blk.cell 8 rfl, hrun, hrow9.blk.cell 8 rfl, hrow9.blk.free 8, hrow9.set 8 _, hown9.setFar hxb 8 _, fun B hB => ?_, fun Ts h1 h2 => ?_, ?_⟩
  · have hb9 : Below B (w8.alloc (.cells #[.string X.id, .string X.title, .string X.link, .string X.author, .string X.content, .string X.date, .int .i8 X.kind] 47)) w9 := ownBelow (base := base) howna hg (by omega) (by simp; omega)
    exact (((hb8.mono (by omega)).trans (hba.mono (by omega))).trans hb9).setCell (p := ⟨xb, 8, none⟩) hB _
  · exact (((KeepsT.below hb8).trans (KeepsT.below hba)).trans (grown_keepsT howna hg h2)).trans (KeepsT.setRow hrow9 h1 8 _)
  · exact (((keepsOthers_belowQ hb8).trans (KeepsOthers.alloc _ _)).trans (keepsOthers_of_rowK howna hg)).trans (KeepsOthers.setCell _ _ _)
end Go.Proofs.Yteefopeclfojiaa
/- 
  Two raw feeds that are the same: the document's Same.
 -/
namespace Go.Proofs.Yteefopeclfojiaa
open Go.RowKit
/-- an item of a row that reads. -/
theorem items_at {B : Nat} {w : World} {a : Option Addr} {n c : Nat} {l : List Itm} (h : CReads B w (.slice a n c) l.length (itsC l)) {k : Nat} {X : Itm} (hk : l[k]? = some X) {u : World} (hu : Below B w u) :
    ∃ b off, a = some ⟨b, off, none⟩ ∧ ∀ j v, (itC X)[j]? = some v → u.cell? ⟨b, off + k * 7 + j, none⟩ = some v := by
  obtain ⟨a', cap, hv, h⟩ := h
  injection hv with hv
  subst hv
  have h0 := itsC_at l k X hk
  obtain ⟨b, off, rfl, hbB, -⟩ := h _ _ (h0 0 _ rfl)
  refine ⟨b, off, rfl, fun j v hj => ?_⟩
  obtain ⟨b', off', hbb, _, c1⟩ := h _ _ (h0 j v hj)
  cases hbb
  rw [hu.cell (p := ⟨b, off + k * 7 + j, none⟩) hbB, Nat.add_assoc]
  exact c1
set_option maxRecDepth 100000 in
set_option maxHeartbeats 4000000 in
theorem ref24_Same (R : RawT) (va vb : Value) (w : World) (hva : CReads w.heap.size w va R.items.length (itsC R.items)) (hvb : CReads w.heap.size w vb R.items.length (itsC R.items)) (hn : R.items.length ≤ 1000000) :
    Calls Try.prog 36 #[.agg (rawC R.fmt R.head va), .agg (rawC R.fmt R.head vb)] w fun r w' => r = .returned (.bool true) ∧ Below w.heap.size w w' := by
  obtain ⟨ba, ca, rfl, -⟩ := id hva
  obtain ⟨bb, cb, rfl, -⟩ := id hvb
  have GA := Lib.hid (fun (k : Nat) (X : Itm) (hk : R.items[k]? = some X) (u : World) (hu : Below w.heap.size w u) => items_at hva hk hu)
  have GB := Lib.hid (fun (k : Nat) (X : Itm) (hk : R.items[k]? = some X) (u : World) (hu : Below w.heap.size w u) => items_at hvb hk hu)
  clear hva hvb
  have hb2 : Below w.heap.size w ((w.alloc (.cells #[.int .i8 R.fmt, .string R.head.id, .string R.head.title, .string R.head.link, .string R.head.author, .string R.head.content, .string R.head.date, .int .i8 R.head.kind, .slice ba R.items.length ca] 50)).alloc (.cells #[.int .i8 R.fmt, .string R.head.id, .string R.head.title, .string R.head.link, .string R.head.author, .string R.head.content, .string R.head.date, .int .i8 R.head.kind, .slice bb R.items.length cb] 50)) := ((Below.refl w.heap.size w).alloc (Nat.le_refl _) _).alloc (by simp) _
  unfold rawC
  have t_id := toL_self R.head.id
  have t_title := toL_self R.head.title
  have t_link := toL_self R.head.link
  have t_author := toL_self R.head.author
  have t_content := toL_self R.head.content
  have t_date := toL_self R.head.date
  obtain ⟨m, hm⟩ : ∃ m, R.items.length = m := ⟨_, rfl⟩
  have HM := Lib.hid hm
  have hA0 := BlkAt.new w #[.int .i8 R.fmt, .string R.head.id, .string R.head.title, .string R.head.link, .string R.head.author, .string R.head.content, .string R.head.date, .int .i8 R.head.kind, .slice ba R.items.length ca] 50
  have hA := hA0.alloc (.cells #[.int .i8 R.fmt, .string R.head.id, .string R.head.title, .string R.head.link, .string R.head.author, .string R.head.content, .string R.head.date, .int .i8 R.head.kind, .slice bb R.items.length cb] 50)
  have hB := BlkAt.new (w.alloc (.cells #[.int .i8 R.fmt, .string R.head.id, .string R.head.title, .string R.head.link, .string R.head.author, .string R.head.content, .string R.head.date, .int .i8 R.head.kind, .slice ba R.items.length ca] 50)) #[.int .i8 R.fmt, .string R.head.id, .string R.head.title, .string R.head.link, .string R.head.author, .string R.head.content, .string R.head.date, .int .i8 R.head.kind, .slice bb R.items.length cb] 50
  rw [World.size_alloc] at hB
  rw [hm] at hb2 hA hB hn ⊢
  clear hA0 hm
  have a8 : _ = some (Value.slice ba m ca) := hA.cell 8 rfl
  have b8 : _ = some (Value.slice bb m cb) := hB.cell 8 rfl
  have HA8 := Lib.hid a8
  have HB8 := Lib.hid b8
  clear a8 b8 hA hB
  go_enter Try.func36, Try.ntmps36
  go_wp2_with fail
  have a8 := HA8.out
  have b8 := HB8.out
  generalize ((w.alloc (.cells #[.int .i8 R.fmt, .string R.head.id, .string R.head.title, .string R.head.link, .string R.head.author, .string R.head.content, .string R.head.date, .int .i8 R.head.kind, .slice ba m ca] 50)).alloc (.cells #[.int .i8 R.fmt, .string R.head.id, .string R.head.title, .string R.head.link, .string R.head.author, .string R.head.content, .string R.head.date, .int .i8 R.head.kind, .slice bb m cb] 50)) = w1 at a8 b8 hb2 ⊢
  clear HA8 HB8 t_id t_title t_link t_author t_content t_date
  go_loopw [5] (fun i wr => ∃ j q : Nat, i = .int .i64 j ∧ j ≤ m ∧ wr = w1.drewN q) (fun i _ => m - (intOf i).toNat)
  case atStart => exact ⟨0, 0, rfl, by omega, rfl⟩
  case round =>
    obtain ⟨j, q, rfl, hj, rfl⟩ := hrel
    by_cases hlt : j < m
    · have hd := decide_eq_true (show (j : Int) < (m : Int) by omega)
      obtain ⟨X, hX⟩ : ∃ X, R.items[j]? = some X := ⟨_, List.getElem?_eq_getElem (by rw [HM.out]; exact hlt)⟩
      obtain ⟨b, off, rfl, hc⟩ := GA.out j X hX w1 hb2
      obtain ⟨b', off', rfl, hc'⟩ := GB.out j X hX w1 hb2
      have x0 : w1.cell? ⟨b, off + j * 7, none⟩ = some (.string X.id) := hc 0 _ rfl
      have y0 : w1.cell? ⟨b', off' + j * 7, none⟩ = some (.string X.id) := hc' 0 _ rfl
      have x1 : w1.cell? ⟨b, off + j * 7 + 1, none⟩ = some (.string X.title) := hc 1 _ rfl
      have y1 : w1.cell? ⟨b', off' + j * 7 + 1, none⟩ = some (.string X.title) := hc' 1 _ rfl
      have x2 : w1.cell? ⟨b, off + j * 7 + 2, none⟩ = some (.string X.link) := hc 2 _ rfl
      have y2 : w1.cell? ⟨b', off' + j * 7 + 2, none⟩ = some (.string X.link) := hc' 2 _ rfl
      have x3 : w1.cell? ⟨b, off + j * 7 + 3, none⟩ = some (.string X.author) := hc 3 _ rfl
      have y3 : w1.cell? ⟨b', off' + j * 7 + 3, none⟩ = some (.string X.author) := hc' 3 _ rfl
      have x4 : w1.cell? ⟨b, off + j * 7 + 4, none⟩ = some (.string X.content) := hc 4 _ rfl
      have y4 : w1.cell? ⟨b', off' + j * 7 + 4, none⟩ = some (.string X.content) := hc' 4 _ rfl
      have x5 : w1.cell? ⟨b, off + j * 7 + 5, none⟩ = some (.string X.date) := hc 5 _ rfl
      have y5 : w1.cell? ⟨b', off' + j * 7 + 5, none⟩ = some (.string X.date) := hc' 5 _ rfl
      have x6 : w1.cell? ⟨b, off + j * 7 + 6, none⟩ = some (.int .i8 X.kind) := hc 6 _ rfl
      have y6 : w1.cell? ⟨b', off' + j * 7 + 6, none⟩ = some (.int .i8 X.kind) := hc' 6 _ rfl
      have s_id := toL_self X.id
      have s_title := toL_self X.title
      have s_link := toL_self X.link
      have s_author := toL_self X.author
      have s_content := toL_self X.content
      have s_date := toL_self X.date
      have a9 : w1.cell? ⟨w.heap.size, 8, none⟩ = some (.slice (some ⟨b, off, none⟩) m ca) := a8
      have b9 : w1.cell? ⟨w.heap.size + 1, 8, none⟩ = some (.slice (some ⟨b', off', none⟩) m cb) := b8
      clear hc hc' hX GA GB
      go_wp2_with fail
      go_quiet (fail)
      go_wp2_with fail
      exact ⟨⟨j + 1, q + nq, by go_num, by omega, by simp [World.drewN]⟩, by simp [intOf]; omega⟩
    · have hd := decide_eq_false (show ¬ (j : Int) < (m : Int) by omega)
      have a9 : w1.cell? ⟨w.heap.size, 8, none⟩ = some (.slice ba m ca) := a8
      go_wp2_with fail
      go_ret
      exact ⟨rfl, below_dn hb2 q⟩
set_option maxRecDepth 100000 in
set_option maxHeartbeats 4000000 in
theorem ref23_SameRaw (R : RawT) (va vb : Value) (w : World) (hva : CReads w.heap.size w va R.items.length (itsC R.items)) (hvb : CReads w.heap.size w vb R.items.length (itsC R.items)) (hn : R.items.length ≤ 1000000) :
    Calls Try.prog 52 #[.agg (rawC R.fmt R.head va), .agg (rawC R.fmt R.head vb)] w fun r w' => r = .returned (.bool true) ∧ Below w.heap.size w w' := by
  obtain ⟨ba, ca, rfl, -⟩ := id hva
  obtain ⟨bb, cb, rfl, -⟩ := id hvb
  have GA := Lib.hid (fun (k : Nat) (X : Itm) (hk : R.items[k]? = some X) (u : World) (hu : Below w.heap.size w u) => items_at hva hk hu)
  have GB := Lib.hid (fun (k : Nat) (X : Itm) (hk : R.items[k]? = some X) (u : World) (hu : Below w.heap.size w u) => items_at hvb hk hu)
  clear hva hvb
  have hb2 : Below w.heap.size w ((w.alloc (.cells #[.int .i8 R.fmt, .string R.head.id, .string R.head.title, .string R.head.link, .string R.head.author, .string R.head.content, .string R.head.date, .int .i8 R.head.kind, .slice ba R.items.length ca] 50)).alloc (.cells #[.int .i8 R.fmt, .string R.head.id, .string R.head.title, .string R.head.link, .string R.head.author, .string R.head.content, .string R.head.date, .int .i8 R.head.kind, .slice bb R.items.length cb] 50)) := ((Below.refl w.heap.size w).alloc (Nat.le_refl _) _).alloc (by simp) _
  unfold rawC
  have t_id := toL_self R.head.id
  have t_title := toL_self R.head.title
  have t_link := toL_self R.head.link
  have t_author := toL_self R.head.author
  have t_content := toL_self R.head.content
  have t_date := toL_self R.head.date
  obtain ⟨m, hm⟩ : ∃ m, R.items.length = m := ⟨_, rfl⟩
  have HM := Lib.hid hm
  have hA0 := BlkAt.new w #[.int .i8 R.fmt, .string R.head.id, .string R.head.title, .string R.head.link, .string R.head.author, .string R.head.content, .string R.head.date, .int .i8 R.head.kind, .slice ba R.items.length ca] 50
  have hA := hA0.alloc (.cells #[.int .i8 R.fmt, .string R.head.id, .string R.head.title, .string R.head.link, .string R.head.author, .string R.head.content, .string R.head.date, .int .i8 R.head.kind, .slice bb R.items.length cb] 50)
  have hB := BlkAt.new (w.alloc (.cells #[.int .i8 R.fmt, .string R.head.id, .string R.head.title, .string R.head.link, .string R.head.author, .string R.head.content, .string R.head.date, .int .i8 R.head.kind, .slice ba R.items.length ca] 50)) #[.int .i8 R.fmt, .string R.head.id, .string R.head.title, .string R.head.link, .string R.head.author, .string R.head.content, .string R.head.date, .int .i8 R.head.kind, .slice bb R.items.length cb] 50
  rw [World.size_alloc] at hB
  rw [hm] at hb2 hA hB hn ⊢
  clear hA0 hm
  have a8 : _ = some (Value.slice ba m ca) := hA.cell 8 rfl
  have b8 : _ = some (Value.slice bb m cb) := hB.cell 8 rfl
  have HA8 := Lib.hid a8
  have HB8 := Lib.hid b8
  clear a8 b8 hA hB
  go_enter Try.func52, Try.ntmps52
  go_wp2_with fail
  have a8 := HA8.out
  have b8 := HB8.out
  generalize ((w.alloc (.cells #[.int .i8 R.fmt, .string R.head.id, .string R.head.title, .string R.head.link, .string R.head.author, .string R.head.content, .string R.head.date, .int .i8 R.head.kind, .slice ba m ca] 50)).alloc (.cells #[.int .i8 R.fmt, .string R.head.id, .string R.head.title, .string R.head.link, .string R.head.author, .string R.head.content, .string R.head.date, .int .i8 R.head.kind, .slice bb m cb] 50)) = w1 at a8 b8 hb2 ⊢
  clear HA8 HB8 t_id t_title t_link t_author t_content t_date
  go_loopw [5] (fun i wr => ∃ j q : Nat, i = .int .i64 j ∧ j ≤ m ∧ wr = w1.drewN q) (fun i _ => m - (intOf i).toNat)
  case atStart => exact ⟨0, 0, rfl, by omega, rfl⟩
  case round =>
    obtain ⟨j, q, rfl, hj, rfl⟩ := hrel
    by_cases hlt : j < m
    · have hd := decide_eq_true (show (j : Int) < (m : Int) by omega)
      obtain ⟨X, hX⟩ : ∃ X, R.items[j]? = some X := ⟨_, List.getElem?_eq_getElem (by rw [HM.out]; exact hlt)⟩
      obtain ⟨b, off, rfl, hc⟩ := GA.out j X hX w1 hb2
      obtain ⟨b', off', rfl, hc'⟩ := GB.out j X hX w1 hb2
      have x0 : w1.cell? ⟨b, off + j * 7, none⟩ = some (.string X.id) := hc 0 _ rfl
      have y0 : w1.cell? ⟨b', off' + j * 7, none⟩ = some (.string X.id) := hc' 0 _ rfl
      have x1 : w1.cell? ⟨b, off + j * 7 + 1, none⟩ = some (.string X.title) := hc 1 _ rfl
      have y1 : w1.cell? ⟨b', off' + j * 7 + 1, none⟩ = some (.string X.title) := hc' 1 _ rfl
      have x2 : w1.cell? ⟨b, off + j * 7 + 2, none⟩ = some (.string X.link) := hc 2 _ rfl
      have y2 : w1.cell? ⟨b', off' + j * 7 + 2, none⟩ = some (.string X.link) := hc' 2 _ rfl
      have x3 : w1.cell? ⟨b, off + j * 7 + 3, none⟩ = some (.string X.author) := hc 3 _ rfl
      have y3 : w1.cell? ⟨b', off' + j * 7 + 3, none⟩ = some (.string X.author) := hc' 3 _ rfl
      have x4 : w1.cell? ⟨b, off + j * 7 + 4, none⟩ = some (.string X.content) := hc 4 _ rfl
      have y4 : w1.cell? ⟨b', off' + j * 7 + 4, none⟩ = some (.string X.content) := hc' 4 _ rfl
      have x5 : w1.cell? ⟨b, off + j * 7 + 5, none⟩ = some (.string X.date) := hc 5 _ rfl
      have y5 : w1.cell? ⟨b', off' + j * 7 + 5, none⟩ = some (.string X.date) := hc' 5 _ rfl
      have x6 : w1.cell? ⟨b, off + j * 7 + 6, none⟩ = some (.int .i8 X.kind) := hc 6 _ rfl
      have y6 : w1.cell? ⟨b', off' + j * 7 + 6, none⟩ = some (.int .i8 X.kind) := hc' 6 _ rfl
      have s_id := toL_self X.id
      have s_title := toL_self X.title
      have s_link := toL_self X.link
      have s_author := toL_self X.author
      have s_content := toL_self X.content
      have s_date := toL_self X.date
      have a9 : w1.cell? ⟨w.heap.size, 8, none⟩ = some (.slice (some ⟨b, off, none⟩) m ca) := a8
      have b9 : w1.cell? ⟨w.heap.size + 1, 8, none⟩ = some (.slice (some ⟨b', off', none⟩) m cb) := b8
      clear hc hc' hX GA GB
      go_wp2_with fail
      go_quiet (fail)
      go_wp2_with fail
      exact ⟨⟨j + 1, q + nq, by go_num, by omega, by simp [World.drewN]⟩, by simp [intOf]; omega⟩
    · have hd := decide_eq_false (show ¬ (j : Int) < (m : Int) by omega)
      have a9 : w1.cell? ⟨w.heap.size, 8, none⟩ = some (.slice ba m ca) := a8
      go_wp2_with fail
      go_ret
      exact ⟨rfl, below_dn hb2 q⟩
end Go.Proofs.Yteefopeclfojiaa
/- 
  Rows of events of the call's own, whose attributes lie in rows of the call's own too.
 -/
namespace Go.Proofs.Yteefopeclfojiaa
open Go.RowKit
/-- an event's attributes: none, or a row of their own. -/
def AtK (w : World) (e : Evt) (av : Value) : Prop := (e.at_ = [] ∧ av = .slice none 0 0) ∨ ∃ (ab c : Nat) (cs : Array Value), av = .slice (some ⟨ab, 0, none⟩) e.at_.length c ∧ RowAt w ab 58 cs ∧ cs.toList = atC e.at_
def AtsK (w : World) : List Evt → List Value → Prop
  | [], [] => True
  | e :: es, a :: as_ => AtK w e a ∧ AtsK w es as_
  | _, _ => False
theorem AtK.mono {w w' : World} {e : Evt} {av : Value} (h : AtK w e av) (hk : ∀ b cs, RowAt w b 58 cs → RowAt w' b 58 cs) : AtK w' e av := by
  rcases h with h | ⟨ab, c, cs, h1, h2, h3⟩
  · exact .inl h
  · exact .inr ⟨ab, c, cs, h1, hk _ _ h2, h3⟩
theorem AtsK.mono {w w' : World} (hk : ∀ b cs, RowAt w b 58 cs → RowAt w' b 58 cs) : ∀ {es : List Evt} {avs : List Value}, AtsK w es avs → AtsK w' es avs
  | [], [], _ => trivial
  | _ :: _, _ :: _, h => ⟨h.1.mono hk, AtsK.mono hk h.2⟩
theorem AtsK.len {w : World} : ∀ {es : List Evt} {avs : List Value}, AtsK w es avs → avs.length = es.length
  | [], [], _ => rfl
  | _ :: _, _ :: _, h => by simp [AtsK.len h.2]
theorem AtsK.app {w : World} : ∀ {es : List Evt} {avs : List Value} {ms : List Evt} {bvs : List Value}, AtsK w es avs → AtsK w ms bvs → AtsK w (es ++ ms) (avs ++ bvs)
  | [], [], _, _, _, h => h
  | _ :: _, _ :: _, _, _, h, h2 => ⟨h.1, AtsK.app h.2 h2⟩
theorem AtK.reads {w : World} {e : Evt} {av : Value} (h : AtK w e av) : CReads w.heap.size w av e.at_.length (atC e.at_) := by
  rcases h with ⟨h1, rfl⟩ | ⟨ab, c, cs, rfl, h2, h3⟩
  · rw [h1]; exact nilC _ _
  · refine ⟨_, c, rfl, fun i u hi => ⟨ab, 0, rfl, h2.lt, ?_⟩⟩
    rw [Nat.zero_add]
    refine h2.blk.cell i ?_
    rw [← h3] at hi
    simpa using hi
theorem AtsK.reads {w : World} : ∀ {es : List Evt} {avs : List Value}, AtsK w es avs → AtsR w.heap.size w es avs
  | [], [], _ => trivial
  | _ :: _, _ :: _, h => ⟨h.1.reads, AtsK.reads h.2⟩
theorem AtK.one {w : World} {e : Evt} {av : Value} (h : AtK w e av) : av.oneCell' = true := by
  rcases h with ⟨-, rfl⟩ | ⟨_, _, _, rfl, -⟩ <;> rfl
theorem evsC_oneK {w : World} : ∀ {es : List Evt} {avs : List Value}, AtsK w es avs → ∀ u ∈ evsC es avs, u.oneCell' = true
  | [], [], _, u, hu => by simp [evsC] at hu
  | e :: es, a :: as_, h, u, hu => by
    rw [evsC] at hu
    rcases List.mem_append.1 hu with hu | hu
    · exact evC_one h.1.one u hu
    · exact evsC_oneK h.2 u hu
def OwnK (base : Nat) (w : World) (v : Value) (es : List Evt) : Prop := ∃ avs, w.ownsRow base 30 5 v es.length (evsC es avs) ∧ AtsK w es avs
theorem OwnK.reads {base : Nat} {w : World} {v : Value} {es : List Evt} (h : OwnK base w v es) : EvsR w.heap.size w v es := by
  obtain ⟨avs, h1, h2⟩ := h
  exact ⟨avs, CReads.of_own h1, h2.reads⟩
theorem OwnK.cap {base : Nat} {w : World} {v : Value} {es : List Evt} (h : OwnK base w v es) : CapR v es.length := by
  obtain ⟨avs, h1, h2⟩ := h
  exact own_capR h1
theorem OwnK.below {base : Nat} {w w' : World} {v : Value} {es : List Evt} (h : OwnK base w v es) (hb : Below w.heap.size w w') : OwnK base w' v es := by
  obtain ⟨avs, h1, h2⟩ := h
  exact ⟨avs, own_below h1 hb (Nat.le_refl _), h2.mono fun b cs hr => hr.below hb hr.lt⟩
theorem OwnK.alloc {base : Nat} {w : World} {v : Value} {es : List Evt} (h : OwnK base w v es) (o : Obj) : OwnK base (w.alloc o) v es := h.below ((Below.refl _ w).alloc (Nat.le_refl _) o)
theorem OwnK.form {base : Nat} {w : World} {v : Value} {es : List Evt} (h : OwnK base w v es) : ∃ a n c, v = .slice a n c := by
  obtain ⟨avs, h1, -⟩ := h
  exact own_slice h1
/-- a row that is written out. -/
theorem OwnK.lit {w : World} {es : List Evt} (avs : List Value) (C : Array Value) (hC : C.toList = evsC es avs) (ha : AtsK w es avs) (n : Nat) (hn : es.length = n) (hm : n ≤ 1000000) :
    OwnK w.heap.size (w.alloc (.cells C 30)) (.slice (some ⟨w.heap.size, 0, none⟩) n n) es := by
  have hl := evsC_len es avs ha.len
  subst hn
  refine ⟨avs, ⟨hl, .inr ⟨w.heap.size, es.length, C, rfl, Nat.le_refl _, heap_alloc_new w _, Nat.le_refl _, by unfold maxLen; omega, ?_, ?_⟩⟩, ha.mono fun b cs hr => hr.alloc _⟩
  · rw [← Array.length_toList, hC, hl]
  · rw [hC, List.take_of_length_le (by omega)]
set_option maxRecDepth 100000 in
/-- 'append(l, ms...)', both of the call's own. -/
theorem OwnK.app {base base' : Nat} {w : World} {v u : Value} {es ms : List Evt} (h : OwnK base w v es) (k : OwnK base' w u ms) (hms : ms ≠ []) (hbase : base ≤ w.heap.size) (hn : es.length + ms.length ≤ 1000000) :
    ∃ a n c w', (Builtin.append_ #[22, 22] 22 #[v, u]).run Try.prog w = .ok (.slice a n c) w' ∧ OwnK base w' (.slice a n c) (es ++ ms) ∧ Below base w w' := by
  obtain ⟨avs, h1, h2⟩ := h
  obtain ⟨bvs, k1, k2⟩ := k
  obtain ⟨i0, hi, hz0, hz1, hz2⟩ := info_parts infoEvt
  have hpos : 0 < ms.length := List.length_pos_iff.2 hms
  rcases k1.2 with ⟨rfl, h0⟩ | ⟨g, cap, cur, rfl, g1, g2, g3, g4, g5, g6⟩
  · omega
  · have hcells := k1.cells (g := g) rfl
    obtain ⟨v', w', hrun, r1, r2, _⟩ := run_append_own (P := Try.prog) w base 22 22 30 i0 _ 5 80 Try.underlying22 hi hz0 hz1 hz2 rfl (by decide) v es.length _ h1 ⟨g, 0, none⟩ ms.length cap (evsC ms bvs) (evsC_len ms bvs k2.len)
      (fun j x hj => hcells j x hj)
      (evsC_oneK k2) (by unfold maxLen; omega) (by omega) hbase
    obtain ⟨a, n, c, rfl⟩ := own_slice r1
    refine ⟨a, n, c, w', hrun, ⟨avs ++ bvs, ?_, ?_⟩, ownBelow h1 r2 (Nat.le_refl _) hbase⟩
    · rw [evsC_app es avs ms bvs h2.len, List.length_append]
      exact r1
    · exact (h2.app k2).mono fun b cs hr => grown_row h1 r2 hr (by decide)
end Go.Proofs.Yteefopeclfojiaa
/- 
  Small lemmas: the first of a list that gives something; a row of children read in a later world; an element's text is no longer than all texts.
 -/
namespace Go.Proofs.Yteefopeclfojiaa
open Go.RowKit
theorem findSome_filter {α β : Type} {P : α → Bool} {f : α → Option β} : ∀ l : List α, (l.filter P).findSome? f = l.findSome? fun k => if P k = true then f k else none
  | [] => rfl
  | a :: l => by
    rw [List.filter_cons, List.findSome?_cons]
    by_cases h : P a = true
    · rw [if_pos h, if_pos h, List.findSome?_cons, findSome_filter l]
    · rw [if_neg h, if_neg h, findSome_filter l]
theorem findSome_step {α β : Type} {f : α → Option β} {l : List α} {j : Nat} {x : α} (hx : l[j]? = some x) (h : (l.take j).findSome? f = none) : (l.take (j + 1)).findSome? f = f x := by
  rw [List.take_add_one, hx, List.findSome?_append, h]
  simp
theorem findSome_pre {α β : Type} {f : α → Option β} {l : List α} {j : Nat} {y : β} (h : (l.take j).findSome? f = some y) : l.findSome? f = some y := by
  have : l = l.take j ++ l.drop j := (List.take_append_drop j l).symm
  rw [this, List.findSome?_append, h]
  rfl
/-- a row of children, in a later world. -/
theorem kid_cells {w : World} {base : Nat} {ka : Option Addr} {m c : Nat} {K : List Nat} (h : w.ownsRow base 3 1 (.slice ka m c) K.length ((natC K).map (Value.int .i64))) (wr : World) (hb : Below w.heap.size w wr) (j x : Nat) (hx : K[j]? = some x) : ∃ g, ka = some ⟨g, 0, none⟩ ∧ wr.cell? ⟨g, j, none⟩ = some (.int .i64 (x : Int)) := by
  obtain ⟨a, c', hv, hc⟩ := kid_row (own_below h hb (Nat.le_refl _))
  obtain ⟨g, hg, h1⟩ := hc j x hx
  injection hv with hv
  exact ⟨g, hv.trans hg, h1⟩
theorem textP_len (es : List Evt) (i : Int) : (textP es i).length ≤ (txsL es).length := by
  unfold textP
  cases atP es i with
  | none => exact Nat.zero_le _
  | some g => exact segL_le es i.toNat (endN g i)
end Go.Proofs.Yteefopeclfojiaa
