/- The drawers of chapter 19: a short line. -/
import Derived.Test.YtgfamaopplgfgaaDrawLine2
import Derived.Deep.RegionHeldLaw
namespace Go.Proofs.Ytgfamaopplgfgaa
open Go Go.RowKit
set_option linter.unusedVariables false
theorem own_none {α : Type} {enc : α → List Value} {sz : Nat} {T : TypeId} {lo nb : Nat} {w : World} (hnb : w.heap.size = nb) (hlo : lo ≤ nb) : Own enc sz T lo (w.alloc (.cells #[] T)) (.slice (some ⟨nb, 0, none⟩) 0 0) ([] : List α) := by
  subst hnb; exact own_empty hlo
theorem box_of {α : Type} (enc : α → List Value) (W : World) (c : α) (cs : Array Value) (hcs : cs.toList = enc c) (T : TypeId) (nb : Nat) (hnb : W.heap.size = nb) : ∀ j u, ([c].flatMap enc)[j]? = some u → (W.alloc (.cells cs T)).cell? ((⟨nb, 0, none⟩ : Addr).add j) = some u := by
  intro j u hu
  subst hnb
  rw [Addr.add_mid, Nat.zero_add, cell_of_row _ _ j _ T (0, 0) (heap_alloc_new W _), ← Array.getElem?_toList, hcs]
  have e : [c].flatMap enc = enc c := by simp
  rw [e] at hu
  exact hu
set_option maxRecDepth 100000 in
set_option maxHeartbeats 4000000 in
theorem shortLine_any (B g K : Nat) (w : World) (h0 : Cur B w g K) (hK : K ≤ 100000) :
    Calls Try.prog 53 #[.pointer (some ⟨g, 0, none⟩)] w (ListPost Support.enc 3 100 (fun L => L.length ≤ 20) B g (K + 400) w) := by
  have hg0 := h0.lt
  go_enter Try.func53, Try.ntmps53
  have hmov := moved_refl w g; have hcur := h0
  go_wp2_with fail
  refine (line_any B g K w h0 hK).mono ?_
  rintro e w1 ⟨A, cap, z, L, rfl, hL, hown, hz20, hcur, hmov⟩
  by_cases h6 : (6 : Int) < (z : Int)
  · go_wp2_with fail
    refine (one_any B g _ _ _ (by assumption) (by omega) (by omega) (by omega)).mono ?_
    rintro e w2 ⟨q, rfl, hcur, hm1⟩
    have hown := own_moved hm1 hg0 hown; have hmov := moved_trans hmov hm1; clear hm1
    cases q
    · obtain ⟨p, rfl, hp0, hp1⟩ := own_head hown hL (by omega)
      obtain ⟨qn, rfl⟩ : ∃ qn, z = qn + 1 := ⟨z - 1, by omega⟩
      have hcp := own_cple hown hL
      have hrd : Rd Support.enc 3 w2.heap.size w2 (some ⟨p, 0, none⟩) L := by have h := hown; rw [← hL] at h; exact Own.rd_of Support.enc_len h
      obtain ⟨b', o', hA', _, hct, _⟩ := rd_part Support.enc_len hrd (by intro h; rw [h] at hL; simp at hL) 4
      cases hA'
      obtain ⟨b', o', hA', _, hc⟩ := Support.rd_at hrd (by intro h; rw [h] at hL; simp at hL)
      cases hA'
      have hgq := List.getElem?_eq_getElem (show qn < L.length by omega)
      obtain ⟨y0, y1, y2⟩ := hc qn _ hgq
      generalize L[qn]'(by omega) = c at *
      simp only [Nat.zero_add] at y0 y1 y2
      have hkt : (L.take 4).length = 4 := by rw [List.length_take]; omega
      clear hc hgq hrd
      have hqz : (qn : Int) < (qn : Int) + 1 := by omega
      go_wp2_with fail
      have hfar : ∀ W, Below w2.heap.size w2 W → W.cell? ⟨p, qn * 3, none⟩ = some (.int .i64 c.at_) ∧ W.cell? ⟨p, qn * 3 + 1, none⟩ = some (.int .i64 c.height) ∧ W.cell? ⟨p, qn * 3 + 2, none⟩ = some (.bool c.station) := fun W hW => ⟨(hW.cell hp1).trans y0, (hW.cell hp1).trans y1, (hW.cell hp1).trans y2⟩
      have HF := hide hfar; clear hfar
      have K0 : Below w2.heap.size w2 w2 := Below.refl _ _
      have hw0 : IntKind.i64.wrap ((qn : Int) + 1 - 1) = (qn : Int) := by rw [IntKind.wrap_i64]; omega
      have hw1 : IntKind.i64.wrap (((qn + 1 : Nat) : Int) - 1) = (qn : Int) := by rw [IntKind.wrap_i64]; omega
      have hw3 : IntKind.i64.wrap (qn : Int) = (qn : Int) := by rw [IntKind.wrap_i64]; omega
      have hw2 : (qn : Int) < ((qn + 1 : Nat) : Int) := by omega
      go_region_held_law (fun w' => w'.cell? ⟨p, qn * 3, none⟩ = some (.int .i64 c.at_) ∧ w'.cell? ⟨p, qn * 3 + 1, none⟩ = some (.int .i64 c.height) ∧ w'.cell? ⟨p, qn * 3 + 2, none⟩ = some (.bool c.station))
        (exact HF.out _ (by repeat (first | assumption | exact Below.refl _ _ | refine Below.drew ?_ | refine Below.alloc ?_ (by first | omega | (simp; done) | (simp; omega)) _)))
        (first
          | (refine step_app rfl (.tmp 14) (.tmp 16) 24 100 rfl Try.underlying24 Support.infoE rfl (by omega) (by omega) Support.enc_len Support.enc_one w2.heap.size _ 0 [] (L.take 4) (some ⟨p, 0, none⟩) 4 cap 0 4 rfl (by omega) rfl (by simp [Act.eval, Act.put]) hkt (fun ad had j u hu => by cases had; rw [Addr.add_mid]; exact ((show Below w2.heap.size w2 _ from by repeat (first | assumption | exact Below.refl _ _ | refine Below.drew ?_ | refine Below.alloc ?_ (by first | omega | (simp; done) | (simp; omega)) _)).cell hp1).trans (hct j u hu)) (fun h => by cases h) (by first | exact own_none (by first | rfl | simp) (by first | omega | simp) | exact World.ownsRow.alloc (own_none (by first | rfl | simp) (by first | omega | simp)) _) (by first | omega | (simp; done) | (simp; omega)) (by omega) ?_; intro Aa ca wa hoa hba hga; have KA : Below w2.heap.size w2 wa := (show Below w2.heap.size w2 _ from by repeat (first | assumption | exact Below.refl _ _ | refine Below.drew ?_ | refine Below.alloc ?_ (by first | omega | (simp; done) | (simp; omega)) _)).trans hba; have hKA : w2.heap.size ≤ wa.heap.size := KA.size)
          | (refine step_app rfl (.tmp 17) (.tmp 24) 24 100 rfl Try.underlying24 Support.infoE rfl (by omega) (by omega) Support.enc_len Support.enc_one w2.heap.size _ ca ([] ++ L.take 4) [c] (some ⟨_, 0, none⟩) 1 1 4 5 (by rw [List.nil_append]; exact hkt) rfl rfl (by simp [Act.eval, Act.put] <;> rfl) rfl (fun ad had j u hu => by cases had; first | exact box_of Support.enc wa c _ rfl _ _ (by first | rfl | simp) j u hu | exact (hga.cell_far _ (by first | (simp [Addr.add_mid]; done) | (simp [Addr.add_mid]; omega)) (by first | (simp [Addr.add_mid, Value.ownBlock]; done) | (simp [Addr.add_mid, Value.ownBlock]; omega))).trans (box_of Support.enc (w2.alloc (.cells #[] 100)) c _ rfl _ _ (by first | rfl | simp) j u hu) | exact (hga.cell_far _ (by first | (simp [Addr.add_mid]; done) | (simp [Addr.add_mid]; omega)) (by first | (simp [Addr.add_mid, Value.ownBlock]; done) | (simp [Addr.add_mid, Value.ownBlock]; omega))).trans ((World.cell?_alloc_lt _ _ _ (by simp [Addr.add_mid])).trans (box_of Support.enc w2 c _ rfl _ _ (by first | rfl | simp) j u hu))) (fun h => by cases h) (by first | exact hoa | exact World.ownsRow.alloc hoa _) (by first | omega | (simp; done) | (simp; omega)) (by omega) ?_; intro Ab cb wb hob hbb hgb; have KB : Below w2.heap.size w2 wb := (show Below w2.heap.size w2 _ from by repeat (first | assumption | exact Below.refl _ _ | refine Below.drew ?_ | refine Below.alloc ?_ (by first | omega | (simp; done) | (simp; omega)) _)).trans hbb))
      all_goals
        go_wp2_with fail
        go_ret
        exact ⟨_, _, _, _, rfl, by simp; omega, Own.mono_ hob hmov.size, by show _ ≤ _; simp; omega, (hcur.below KB).mono (by omega), moved_then hmov KB⟩
    · go_wp2_with fail
      go_ret
      exact ⟨_, _, _, _, rfl, hL, hown, hz20, hcur.mono (by omega), hmov⟩
  · go_wp2_with fail
    go_ret
    exact ⟨_, _, _, _, rfl, hL, hown, hz20, hcur.mono (by omega), hmov⟩
end Go.Proofs.Ytgfamaopplgfgaa
