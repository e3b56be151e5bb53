/-
  Layer 16: the walk of events.Text.
-/
import Derived.Test.YteefopeclfojiaaEvE
import Derived.StillTailTactics
namespace Go.Proofs.Yteefopeclfojiaa
open Go.RowKit
/-- the number behind an element's last event. -/
def endN (g : Gr) (i : Int) : Nat := match aGet g.ends i with
  | some (.int _ j) => j.toNat
  | _ => 0
/-- an element's text. -/
def textP (es : List Evt) (i : Int) : List Int := match atP es i with
  | none => []
  | some g => txsL ((es.drop i.toNat).take (endN g i - i.toNat))
set_option maxRecDepth 100000 in
set_option maxHeartbeats 2000000 in
theorem events_Text (B : Nat) (es : List Evt) (v : Value) (i : Int) (w : World) (hr : EvsR B w v es) (hB : B ≤ w.heap.size) (hn : es.length ≤ 1000000) (hz : ∀ e ∈ es, e.at_.length ≤ 140737488351232) (ht : (txsL es).length < 140737488355329) (hcap : ∃ a cap, v = .slice a es.length cap ∧ es.length ≤ cap ∧ cap ≤ maxLen) :
    Calls Try.prog 21 #[v, .int .i64 i] w fun r w' => r = .returned (.string (strOfNums (textP es i))) ∧ Below w.heap.size w w' := by
  have hg := events_at B es v i w hr hB hn hz
  unfold textP
  obtain ⟨R, hR⟩ : ∃ R, atP es i = R := ⟨_, rfl⟩
  rw [hR] at hg ⊢
  have H := Lib.hid hg
  clear hg
  cases R with
  | none =>
    clear hR
    go_enter Try.func21, Try.ntmps21
    go_wp2_with fail
    refine (H.out).mono ?_
    rintro r w1 ⟨rfl, hb⟩
    go_wp2_with fail
    go_ret
    exact ⟨rfl, hb⟩
  | some g =>
    obtain ⟨p, j, rfl, hev, hag, hpj, hjn⟩ := atP_end hR
    have hen : endN g p = j := by unfold endN; rw [hag]; rfl
    simp only [hen, Int.toNat_natCast]
    obtain ⟨x, hx⟩ : ∃ x, es[p]? = some x := ⟨_, List.getElem?_eq_getElem (by omega)⟩
    obtain ⟨b, off, cap, av, hv, hbB, -⟩ := hr.get (Below.refl B w) (Nat.le_refl _) p x hx
    obtain ⟨a', cp, hv', hc1, hc2⟩ := hcap
    subst hv
    injection hv' with e1 e2 e3
    subst e3
    clear e1 e2
    obtain ⟨n, hnn⟩ : ∃ n, es.length = n := ⟨_, rfl⟩
    have hsub := fun c => hr.sub p (j - p) c (by omega)
    have hlen : ((es.drop p).take (j - p)).length ≤ 1000000 := by rw [List.length_take, List.length_drop]; omega
    have hdl : ((es.drop p).take (j - p)).length = j - p := by rw [List.length_take, List.length_drop]; omega
    have htx : (txsL ((es.drop p).take (j - p))).length < 140737488355329 := by
      have h1 := txsL_le (es.drop p) (j - p)
      have h2 : (txsL (es.drop p)).length ≤ (txsL es).length := by
        unfold txsL
        conv => rhs; rw [← List.take_append_drop p es, List.flatMap_append, List.length_append]
        omega
      omega
    rw [hnn] at H hr hjn hc1 hn ⊢
    obtain ⟨part, hpart⟩ : ∃ q, (es.drop p).take (j - p) = q := ⟨_, rfl⟩
    rw [hpart] at hsub hlen hdl htx ⊢
    have hq1 : (p : Int) ≤ (j : Int) := by omega
    have hq2 : (j : Int) ≤ (cap : Int) := by omega
    have hq3 : (0 : Int) ≤ (p : Int) := by omega
    have hq4 : (0 : Int) ≤ (j : Int) := by omega
    have HT := Lib.hid (fun (u : World) (hu : Below w.heap.size w u) => events_texts B part (.slice (some ⟨b, off + p * 5, none⟩) (j - p) (j - p)) u ((hsub (j - p)).below (hu.mono hB) (Nat.le_refl _)) (Nat.le_trans hB hu.size) hlen htx)
    clear hR hx hen hnn hsub hlen hdl htx hr hpart ht hz hn av hag
    go_enter Try.func21, Try.ntmps21
    go_wp2_with fail
    refine (H.out).mono ?_
    rintro r w1 ⟨gp, mb, rfl, hb, htr, hm, -⟩
    clear H
    have hbd : Below w.heap.size w w1.drew := hb.drew
    have hlk := ends_look (W := w1.drew) (g := g) hm p
    rw [hev] at hlk
    have hcm : World.cell? w1.drew ⟨gp, 1, none⟩ = some (Value.map (some mb)) := htr.cell 1 rfl
    clear htr hm hev
    have HH := Lib.hid (And.intro hlk (And.intro hcm hbd))
    clear hlk hcm hbd
    go_wp2_with fail
    obtain ⟨hlk, hcm, hbd⟩ := HH.out
    go_still_tail 15, (by kernel_rfl)
    rw [if_neg (show ¬ j = p by omega)]
    change wpList _ _ _ _ _ w1.drew
    clear hlk hcm HH
    generalize w1.drew = w2 at hbd ⊢
    go_wp2_with fail
    refine (HT.out _ hbd).mono ?_
    rintro r w3 ⟨rfl, hb3⟩
    go_wp2_with fail
    go_ret
    exact ⟨rfl, hbd.trans (hb3.mono hbd.size)⟩
end Go.Proofs.Yteefopeclfojiaa
