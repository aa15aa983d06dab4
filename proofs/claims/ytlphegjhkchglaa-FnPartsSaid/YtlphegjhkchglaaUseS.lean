/- Uses of parts: the reference's order, its run, its sorted insertion. -/
import Derived.Test.YtlphegjhkchglaaUsesP
import Derived.Test.YtlphegjhkchglaaRowI
import Derived.Deep.RegionHeldLaw
namespace Go.Proofs.Ytlphegjhkchglaa
open Go Go.RowKit
set_option linter.unusedVariables false
set_option linter.unusedSimpArgs false
set_option maxRecDepth 100000 in
set_option maxHeartbeats 4000000 in
theorem l1Put_any (M : List Int) (x : Int) (n : Nat) (A : Option Addr) (cap lo : Nat) (w : World) (hMl : M.length = n) (hA : A ≠ none) (ho : Own encI 1 3 lo w (.slice A n cap) M) (hl : n ≤ 30) (hx : x ∉ M) :
    Calls Try.prog 82 #[.slice A n cap, .int .i64 x] w fun e w' => ∃ q cap', e = .returned (.slice (some ⟨q, 0, none⟩) (n + 1) cap') ∧ Own encI 1 3 w.heap.size w' (.slice (some ⟨q, 0, none⟩) (n + 1) cap') (putI M x) ∧ Below w.heap.size w w' := by
  have hr := Own.rd_of encI_len ho
  have hcap := own_cple ho hMl
  have HX := hide hx; clear hx
  go_enter Try.func82, Try.ntmps82
  go_wp2_with fail
  go_loop [5] (fun i => ∃ k : Nat, k ≤ n ∧ i = .int .i64 k ∧ Hid (∀ (j : Nat) (c : Int), j < k → M[j]? = some c → decide (c < x) = true)) (fun i => n - (intOf i).toNat)
  case atStart => exact ⟨0, Nat.zero_le _, rfl, hide (fun j c hj => absurd hj (Nat.not_lt_zero j))⟩
  case round =>
    obtain ⟨k, hk, rfl, hlw⟩ := hrel
    have hend : (∀ c, M[k]? = some c → decide (c < x) = false) → putI M x = insL M k x := fun h3 => by rw [putI, pos_is M k (by omega) hlw.out h3]
    have HEND := hide hend; clear hend
    by_cases hlt : k < n
    · have hki : (k : Int) < (n : Int) := by omega
      have hg := List.getElem?_eq_getElem (show k < M.length by omega)
      obtain ⟨b0, o0, rfl, _, hc0⟩ := rd_int hr (by intro h; rw [h] at hMl; simp at hMl; omega)
      have y := hc0 k _ hg
      have hmem := List.getElem_mem (show k < M.length by omega)
      generalize M[k]'(by omega) = c at *
      have HG := hide hg; have HM := hide hmem; have HO := hide ho; have HR := hide hr; clear hg hmem ho hr hc0
      by_cases hcx : c < x
      · go_wp2_with fail
        go_round
        case rel => exact ⟨k + 1, by omega, by go_num, hide (fun j d hj hd => by
          rcases Nat.lt_or_eq_of_le (Nat.lt_succ_iff.1 hj) with h3 | h3
          · exact hlw.out j d h3 hd
          · subst h3; rw [HG.out] at hd; injection hd with hd; rw [← hd]; exact decide_eq_true hcx)⟩
        case measure => simp [intOf] <;> omega
      · have hne : (c == x) = false := by
          rw [beq_eq_false_iff_ne]; intro h; subst h; exact HX.out HM.out
        have HPUT := hide (HEND.out (fun d hd => by rw [HG.out] at hd; injection hd with hd; rw [← hd]; exact decide_eq_false hcx))
        have hr := HR.out
        have hkcl : k < n := hlt
        obtain ⟨b', o', hA2, hbw, hct, hcd⟩ := rd_part encI_len hr (by intro h; rw [h] at hMl; simp at hMl; omega) k
        cases hA2
        replace hcd : ∀ j u, ((M.drop k).flatMap encI)[j]? = some u → w.cell? ⟨b0, o0 + k + j, none⟩ = some u := fun j u hu => by have := hcd j u hu; rwa [Nat.mul_one] at this
        have hk0 : (0 : Int) ≤ (k : Int) := by omega
        have hkl : (k : Int) ≤ (n : Int) := by omega
        have hkc : k ≤ cap := by omega
        have hck : ¬ cap = k := by omega
        have hkt : (M.take k).length = k := by rw [List.length_take]; omega
        have hkd : (M.drop k).length = (n - k) := by rw [List.length_drop]; omega
        have hke : ([] ++ M.take k ++ [x]) ++ M.drop k = insL M k x := by simp [insL]
        have HKE := hide hke; clear hke
        go_wp2_with fail
        have K0 : Below w.heap.size w w := Below.refl _ _
        go_region_held_law (fun w' => True) (exact trivial)
          (first
            | (refine step_app rfl (.tmp 33) (.tmp 36) 33 3 rfl Try.underlying33 infoI rfl (by omega) (by omega) encI_len encI_one w.heap.size _ 0 [] (M.take k) (some ⟨b0, o0, none⟩) k cap 0 k rfl (by omega) rfl (by simp [Act.eval, Act.put]) hkt (fun ad had j u hu => by cases had; rw [Addr.add_mid]; exact ((show Below w.heap.size w _ from by repeat (first | assumption | exact Below.refl _ _ | refine Below.drew ?_ | refine Below.alloc ?_ (by first | omega | (simp; done) | (simp; omega)) _)).cell hbw).trans (hct j u hu)) (fun h => by cases h) (by first | exact own_none (by first | rfl | simp) (by first | omega | simp) | exact World.ownsRow.alloc (own_none (by first | rfl | simp) (by first | omega | simp)) _) (by first | omega | (simp; done) | (simp; omega)) (by omega) ?_; intro Aa ca wa hoa hba hga; have KA : Below w.heap.size w wa := (show Below w.heap.size w _ from by repeat (first | assumption | exact Below.refl _ _ | refine Below.drew ?_ | refine Below.alloc ?_ (by first | omega | (simp; done) | (simp; omega)) _)).trans hba; have hKA : w.heap.size ≤ wa.heap.size := KA.size)
            | (refine step_app rfl (.tmp 37) (.tmp 39) 33 3 rfl Try.underlying33 infoI rfl (by omega) (by omega) encI_len encI_one w.heap.size _ ca ([] ++ M.take k) [x] (some ⟨_, 0, none⟩) 1 1 (k) (k + 1) (by rw [List.nil_append]; exact hkt) rfl rfl (by simp [Act.eval, Act.put] <;> rfl) rfl (fun ad had j u hu => by cases had; first | exact box_of _ wa x _ rfl _ _ (by first | rfl | simp) j u hu | exact (hga.cell_far _ (by first | (simp [Addr.add_mid]; done) | (simp [Addr.add_mid]; omega)) (by first | (simp [Addr.add_mid, Value.ownBlock]; done) | (simp [Addr.add_mid, Value.ownBlock]; omega))).trans (box_of _ (w.alloc (.cells #[] 3)) x _ rfl _ _ (by first | rfl | simp) j u hu) | exact (hga.cell_far _ (by first | (simp [Addr.add_mid]; done) | (simp [Addr.add_mid]; omega)) (by first | (simp [Addr.add_mid, Value.ownBlock]; done) | (simp [Addr.add_mid, Value.ownBlock]; omega))).trans ((World.cell?_alloc_lt _ _ _ (by simp [Addr.add_mid])).trans (box_of _ w x _ rfl _ _ (by first | rfl | simp) j u hu))) (fun h => by cases h) (by first | exact hoa | exact World.ownsRow.alloc hoa _) (by first | omega | (simp; done) | (simp; omega)) (by omega) ?_; intro Ab cb wb hob hbb hgb; have KB : Below w.heap.size w wb := (show Below w.heap.size w _ from by repeat (first | assumption | exact Below.refl _ _ | refine Below.drew ?_ | refine Below.alloc ?_ (by first | omega | (simp; done) | (simp; omega)) _)).trans hbb; have hKB : w.heap.size ≤ wb.heap.size := KB.size)
            | (refine step_app rfl (.tmp 40) (.tmp 43) 33 3 rfl Try.underlying33 infoI rfl (by omega) (by omega) encI_len encI_one w.heap.size _ cb ([] ++ M.take k ++ [x]) (M.drop k) (some ⟨b0, o0 + k, none⟩) (n - k) (cap - k) (k + 1) (k + 1 + (n - k)) (by rw [List.length_append, List.nil_append, hkt]; rfl) (by omega) rfl (by simp [Act.eval, Act.put]) hkd (fun ad had j u hu => by cases had; rw [Addr.add_mid]; exact ((show Below w.heap.size w _ from by repeat (first | assumption | exact Below.refl _ _ | refine Below.drew ?_ | refine Below.alloc ?_ (by first | omega | (simp; done) | (simp; omega)) _)).cell hbw).trans (hcd j u hu)) (fun h => by cases h) (by first | exact hob | exact World.ownsRow.alloc hob _) (by first | omega | (simp; done) | (simp; omega)) (by omega) ?_; intro Ac cc wc hoc hbc hgc; have KC : Below w.heap.size w wc := (show Below w.heap.size w _ from by repeat (first | assumption | exact Below.refl _ _ | refine Below.drew ?_ | refine Below.alloc ?_ (by first | omega | (simp; done) | (simp; omega)) _)).trans hbc))
        all_goals
          rw [HKE.out] at hoc
          go_wp2_with fail
          go_ret
          rw [← HPUT.out] at hoc
          obtain ⟨q, hq⟩ := own_some hoc (by rw [HPUT.out, insL_len _ _ _ (by omega)]; omega)
          subst hq
          have hz : k + 1 + (n - k) = n + 1 := by omega
          rw [hz] at hoc
          refine ⟨q, cc, congrArg Ending.returned ?_, hoc, KC⟩
          simp [Array.getD, List.length_set]; omega
    · obtain rfl : n = k := by omega
      have HPUT := hide (HEND.out (fun d hd => by rw [List.getElem?_eq_none (by omega)] at hd; cases hd))
      have hnk : ¬ (n : Int) < (n : Int) := by omega
      clear ho
      rcases A with _ | ad
      · exact absurd rfl hA
      · by_cases hn0 : n = 0
        · subst hn0
          by_cases hck : cap = 0
          · subst hck
            have hkt : (M.take 0).length = 0 := by rw [List.length_take]; omega
            have hdk : M.drop 0 = [] := by rw [List.drop_eq_nil_iff]; omega
            have hke : ([] ++ M.take 0 ++ [x]) ++ ([] : List Int) = insL M 0 x := by unfold insL; rw [hdk]; simp
            clear hdk
            have HKE := hide hke; clear hke
            go_wp2_with fail
            have K0 : Below w.heap.size w w := Below.refl _ _
            go_region_held_law (fun w' => True) (exact trivial)
              (first
                | (refine step_app rfl (.tmp 33) (.tmp 36) 33 3 rfl Try.underlying33 infoI rfl (by omega) (by omega) encI_len encI_one w.heap.size _ 0 [] (M.take 0) (some ad) 0 0 0 0 rfl (by omega) rfl (by simp [Act.eval, Act.put]) hkt (fun ad had j u hu => by simp at hu) (fun h => by cases h) (by first | exact own_none (by first | rfl | simp) (by first | omega | simp) | exact World.ownsRow.alloc (own_none (by first | rfl | simp) (by first | omega | simp)) _) (by first | omega | (simp; done) | (simp; omega)) (by omega) ?_; intro Aa ca wa hoa hba hga; have KA : Below w.heap.size w wa := (show Below w.heap.size w _ from by repeat (first | assumption | exact Below.refl _ _ | refine Below.drew ?_ | refine Below.alloc ?_ (by first | omega | (simp; done) | (simp; omega)) _)).trans hba; have hKA : w.heap.size ≤ wa.heap.size := KA.size)
                | (refine step_app rfl (.tmp 37) (.tmp 39) 33 3 rfl Try.underlying33 infoI rfl (by omega) (by omega) encI_len encI_one w.heap.size _ ca ([] ++ M.take 0) [x] (some ⟨_, 0, none⟩) 1 1 (0) (0 + 1) (by rw [List.nil_append]; exact hkt) rfl rfl (by simp [Act.eval, Act.put] <;> rfl) rfl (fun ad had j u hu => by cases had; first | exact box_of _ wa x _ rfl _ _ (by first | rfl | simp) j u hu | exact (hga.cell_far _ (by first | (simp [Addr.add_mid]; done) | (simp [Addr.add_mid]; omega)) (by first | (simp [Addr.add_mid, Value.ownBlock]; done) | (simp [Addr.add_mid, Value.ownBlock]; omega))).trans (box_of _ (w.alloc (.cells #[] 3)) x _ rfl _ _ (by first | rfl | simp) j u hu) | exact (hga.cell_far _ (by first | (simp [Addr.add_mid]; done) | (simp [Addr.add_mid]; omega)) (by first | (simp [Addr.add_mid, Value.ownBlock]; done) | (simp [Addr.add_mid, Value.ownBlock]; omega))).trans ((World.cell?_alloc_lt _ _ _ (by simp [Addr.add_mid])).trans (box_of _ w x _ rfl _ _ (by first | rfl | simp) j u hu))) (fun h => by cases h) (by first | exact hoa | exact World.ownsRow.alloc hoa _) (by first | omega | (simp; done) | (simp; omega)) (by omega) ?_; intro Ab cb wb hob hbb hgb; have KB : Below w.heap.size w wb := (show Below w.heap.size w _ from by repeat (first | assumption | exact Below.refl _ _ | refine Below.drew ?_ | refine Below.alloc ?_ (by first | omega | (simp; done) | (simp; omega)) _)).trans hbb; have hKB : w.heap.size ≤ wb.heap.size := KB.size)
                | (refine step_app rfl (.tmp 40) (.tmp 43) 33 3 rfl Try.underlying33 infoI rfl (by omega) (by omega) encI_len encI_one w.heap.size _ cb ([] ++ M.take 0 ++ [x]) (([] : List Int)) (some ad) 0 0 (0 + 1) (0 + 1 + 0) (by rw [List.length_append, List.nil_append, hkt]; rfl) (by omega) rfl (by simp [Act.eval, Act.put]) rfl (fun ad had j u hu => by simp at hu) (fun h => by cases h) (by first | exact hob | exact World.ownsRow.alloc hob _) (by first | omega | (simp; done) | (simp; omega)) (by omega) ?_; intro Ac cc wc hoc hbc hgc; have KC : Below w.heap.size w wc := (show Below w.heap.size w _ from by repeat (first | assumption | exact Below.refl _ _ | refine Below.drew ?_ | refine Below.alloc ?_ (by first | omega | (simp; done) | (simp; omega)) _)).trans hbc))
            all_goals
              rw [HKE.out] at hoc
              go_wp2_with fail
              go_ret
              rw [← HPUT.out] at hoc
              obtain ⟨q, hq⟩ := own_some hoc (by rw [HPUT.out, insL_len _ _ _ (by omega)]; omega)
              subst hq
              have hz : 0 + 1 + 0 = 0 + 1 := by omega
              rw [hz] at hoc
              refine ⟨q, cc, congrArg Ending.returned ?_, hoc, KC⟩
              simp [Array.getD, List.length_set]
          · have hck3 : ¬ 0 = cap := fun h => hck h.symm
            have hkt : (M.take 0).length = 0 := by rw [List.length_take]; omega
            have hdk : M.drop 0 = [] := by rw [List.drop_eq_nil_iff]; omega
            have hke : ([] ++ M.take 0 ++ [x]) ++ ([] : List Int) = insL M 0 x := by unfold insL; rw [hdk]; simp
            clear hdk
            have HKE := hide hke; clear hke
            go_wp2_with fail
            have K0 : Below w.heap.size w w := Below.refl _ _
            go_region_held_law (fun w' => True) (exact trivial)
              (first
                | (refine step_app rfl (.tmp 33) (.tmp 36) 33 3 rfl Try.underlying33 infoI rfl (by omega) (by omega) encI_len encI_one w.heap.size _ 0 [] (M.take 0) (some ad) 0 cap 0 0 rfl (by omega) rfl (by simp [Act.eval, Act.put]) hkt (fun ad had j u hu => by simp at hu) (fun h => by cases h) (by first | exact own_none (by first | rfl | simp) (by first | omega | simp) | exact World.ownsRow.alloc (own_none (by first | rfl | simp) (by first | omega | simp)) _) (by first | omega | (simp; done) | (simp; omega)) (by omega) ?_; intro Aa ca wa hoa hba hga; have KA : Below w.heap.size w wa := (show Below w.heap.size w _ from by repeat (first | assumption | exact Below.refl _ _ | refine Below.drew ?_ | refine Below.alloc ?_ (by first | omega | (simp; done) | (simp; omega)) _)).trans hba; have hKA : w.heap.size ≤ wa.heap.size := KA.size)
                | (refine step_app rfl (.tmp 37) (.tmp 39) 33 3 rfl Try.underlying33 infoI rfl (by omega) (by omega) encI_len encI_one w.heap.size _ ca ([] ++ M.take 0) [x] (some ⟨_, 0, none⟩) 1 1 (0) (0 + 1) (by rw [List.nil_append]; exact hkt) rfl rfl (by simp [Act.eval, Act.put] <;> rfl) rfl (fun ad had j u hu => by cases had; first | exact box_of _ wa x _ rfl _ _ (by first | rfl | simp) j u hu | exact (hga.cell_far _ (by first | (simp [Addr.add_mid]; done) | (simp [Addr.add_mid]; omega)) (by first | (simp [Addr.add_mid, Value.ownBlock]; done) | (simp [Addr.add_mid, Value.ownBlock]; omega))).trans (box_of _ (w.alloc (.cells #[] 3)) x _ rfl _ _ (by first | rfl | simp) j u hu) | exact (hga.cell_far _ (by first | (simp [Addr.add_mid]; done) | (simp [Addr.add_mid]; omega)) (by first | (simp [Addr.add_mid, Value.ownBlock]; done) | (simp [Addr.add_mid, Value.ownBlock]; omega))).trans ((World.cell?_alloc_lt _ _ _ (by simp [Addr.add_mid])).trans (box_of _ w x _ rfl _ _ (by first | rfl | simp) j u hu))) (fun h => by cases h) (by first | exact hoa | exact World.ownsRow.alloc hoa _) (by first | omega | (simp; done) | (simp; omega)) (by omega) ?_; intro Ab cb wb hob hbb hgb; have KB : Below w.heap.size w wb := (show Below w.heap.size w _ from by repeat (first | assumption | exact Below.refl _ _ | refine Below.drew ?_ | refine Below.alloc ?_ (by first | omega | (simp; done) | (simp; omega)) _)).trans hbb; have hKB : w.heap.size ≤ wb.heap.size := KB.size)
                | (refine step_app rfl (.tmp 40) (.tmp 43) 33 3 rfl Try.underlying33 infoI rfl (by omega) (by omega) encI_len encI_one w.heap.size _ cb ([] ++ M.take 0 ++ [x]) (([] : List Int)) (some ad) 0 cap (0 + 1) (0 + 1 + 0) (by rw [List.length_append, List.nil_append, hkt]; rfl) (by omega) rfl (by simp [Act.eval, Act.put]) rfl (fun ad had j u hu => by simp at hu) (fun h => by cases h) (by first | exact hob | exact World.ownsRow.alloc hob _) (by first | omega | (simp; done) | (simp; omega)) (by omega) ?_; intro Ac cc wc hoc hbc hgc; have KC : Below w.heap.size w wc := (show Below w.heap.size w _ from by repeat (first | assumption | exact Below.refl _ _ | refine Below.drew ?_ | refine Below.alloc ?_ (by first | omega | (simp; done) | (simp; omega)) _)).trans hbc))
            all_goals
              rw [HKE.out] at hoc
              go_wp2_with fail
              go_ret
              rw [← HPUT.out] at hoc
              obtain ⟨q, hq⟩ := own_some hoc (by rw [HPUT.out, insL_len _ _ _ (by omega)]; omega)
              subst hq
              have hz : 0 + 1 + 0 = 0 + 1 := by omega
              rw [hz] at hoc
              refine ⟨q, cc, congrArg Ending.returned ?_, hoc, KC⟩
              simp [Array.getD, List.length_set]
        · have hk0 : (0 : Int) ≤ (n : Int) := by omega
          obtain ⟨b, o, hA2, hbw, hct, _⟩ := rd_part encI_len hr (by intro h; rw [h] at hMl; simp at hMl; omega) n
          cases hA2
          by_cases hck : cap = n
          · have hck2 := hck.symm; clear hck
            subst hck2
            have hkt : (M.take n).length = n := by rw [List.length_take]; omega
            have hdk : M.drop n = [] := by rw [List.drop_eq_nil_iff]; omega
            have hke : ([] ++ M.take n ++ [x]) ++ ([] : List Int) = insL M n x := by unfold insL; rw [hdk]; simp
            clear hdk
            have HKE := hide hke; clear hke
            go_wp2_with fail
            have K0 : Below w.heap.size w w := Below.refl _ _
            go_region_held_law (fun w' => True) (exact trivial)
              (first
                | (refine step_app rfl (.tmp 33) (.tmp 36) 33 3 rfl Try.underlying33 infoI rfl (by omega) (by omega) encI_len encI_one w.heap.size _ 0 [] (M.take n) (some ⟨b, o, none⟩) n n 0 n rfl (by omega) rfl (by simp [Act.eval, Act.put]) hkt (fun ad had j u hu => by cases had; rw [Addr.add_mid]; exact ((show Below w.heap.size w _ from by repeat (first | assumption | exact Below.refl _ _ | refine Below.drew ?_ | refine Below.alloc ?_ (by first | omega | (simp; done) | (simp; omega)) _)).cell hbw).trans (hct j u hu)) (fun h => by cases h) (by first | exact own_none (by first | rfl | simp) (by first | omega | simp) | exact World.ownsRow.alloc (own_none (by first | rfl | simp) (by first | omega | simp)) _) (by first | omega | (simp; done) | (simp; omega)) (by omega) ?_; intro Aa ca wa hoa hba hga; have KA : Below w.heap.size w wa := (show Below w.heap.size w _ from by repeat (first | assumption | exact Below.refl _ _ | refine Below.drew ?_ | refine Below.alloc ?_ (by first | omega | (simp; done) | (simp; omega)) _)).trans hba; have hKA : w.heap.size ≤ wa.heap.size := KA.size)
                | (refine step_app rfl (.tmp 37) (.tmp 39) 33 3 rfl Try.underlying33 infoI rfl (by omega) (by omega) encI_len encI_one w.heap.size _ ca ([] ++ M.take n) [x] (some ⟨_, 0, none⟩) 1 1 (n) (n + 1) (by rw [List.nil_append]; exact hkt) rfl rfl (by simp [Act.eval, Act.put] <;> rfl) rfl (fun ad had j u hu => by cases had; first | exact box_of _ wa x _ rfl _ _ (by first | rfl | simp) j u hu | exact (hga.cell_far _ (by first | (simp [Addr.add_mid]; done) | (simp [Addr.add_mid]; omega)) (by first | (simp [Addr.add_mid, Value.ownBlock]; done) | (simp [Addr.add_mid, Value.ownBlock]; omega))).trans (box_of _ (w.alloc (.cells #[] 3)) x _ rfl _ _ (by first | rfl | simp) j u hu) | exact (hga.cell_far _ (by first | (simp [Addr.add_mid]; done) | (simp [Addr.add_mid]; omega)) (by first | (simp [Addr.add_mid, Value.ownBlock]; done) | (simp [Addr.add_mid, Value.ownBlock]; omega))).trans ((World.cell?_alloc_lt _ _ _ (by simp [Addr.add_mid])).trans (box_of _ w x _ rfl _ _ (by first | rfl | simp) j u hu))) (fun h => by cases h) (by first | exact hoa | exact World.ownsRow.alloc hoa _) (by first | omega | (simp; done) | (simp; omega)) (by omega) ?_; intro Ab cb wb hob hbb hgb; have KB : Below w.heap.size w wb := (show Below w.heap.size w _ from by repeat (first | assumption | exact Below.refl _ _ | refine Below.drew ?_ | refine Below.alloc ?_ (by first | omega | (simp; done) | (simp; omega)) _)).trans hbb; have hKB : w.heap.size ≤ wb.heap.size := KB.size)
                | (refine step_app rfl (.tmp 40) (.tmp 43) 33 3 rfl Try.underlying33 infoI rfl (by omega) (by omega) encI_len encI_one w.heap.size _ cb ([] ++ M.take n ++ [x]) (([] : List Int)) (some ⟨b, o, none⟩) 0 0 (n + 1) (n + 1 + 0) (by rw [List.length_append, List.nil_append, hkt]; rfl) (by omega) rfl (by simp [Act.eval, Act.put]) rfl (fun ad had j u hu => by simp at hu) (fun h => by cases h) (by first | exact hob | exact World.ownsRow.alloc hob _) (by first | omega | (simp; done) | (simp; omega)) (by omega) ?_; intro Ac cc wc hoc hbc hgc; have KC : Below w.heap.size w wc := (show Below w.heap.size w _ from by repeat (first | assumption | exact Below.refl _ _ | refine Below.drew ?_ | refine Below.alloc ?_ (by first | omega | (simp; done) | (simp; omega)) _)).trans hbc))
            all_goals
              rw [HKE.out] at hoc
              go_wp2_with fail
              go_ret
              rw [← HPUT.out] at hoc
              obtain ⟨q, hq⟩ := own_some hoc (by rw [HPUT.out, insL_len _ _ _ (by omega)]; omega)
              subst hq
              have hz : n + 1 + 0 = n + 1 := by omega
              rw [hz] at hoc
              refine ⟨q, cc, congrArg Ending.returned ?_, hoc, KC⟩
              simp [Array.getD, List.length_set]
          · have hck3 : ¬ n = cap := fun h => hck h.symm
            have hkc : n ≤ cap := by omega
            have hkt : (M.take n).length = n := by rw [List.length_take]; omega
            have hdk : M.drop n = [] := by rw [List.drop_eq_nil_iff]; omega
            have hke : ([] ++ M.take n ++ [x]) ++ ([] : List Int) = insL M n x := by unfold insL; rw [hdk]; simp
            clear hdk
            have HKE := hide hke; clear hke
            go_wp2_with fail
            have K0 : Below w.heap.size w w := Below.refl _ _
            go_region_held_law (fun w' => True) (exact trivial)
              (first
                | (refine step_app rfl (.tmp 33) (.tmp 36) 33 3 rfl Try.underlying33 infoI rfl (by omega) (by omega) encI_len encI_one w.heap.size _ 0 [] (M.take n) (some ⟨b, o, none⟩) n cap 0 n rfl (by omega) rfl (by simp [Act.eval, Act.put]) hkt (fun ad had j u hu => by cases had; rw [Addr.add_mid]; exact ((show Below w.heap.size w _ from by repeat (first | assumption | exact Below.refl _ _ | refine Below.drew ?_ | refine Below.alloc ?_ (by first | omega | (simp; done) | (simp; omega)) _)).cell hbw).trans (hct j u hu)) (fun h => by cases h) (by first | exact own_none (by first | rfl | simp) (by first | omega | simp) | exact World.ownsRow.alloc (own_none (by first | rfl | simp) (by first | omega | simp)) _) (by first | omega | (simp; done) | (simp; omega)) (by omega) ?_; intro Aa ca wa hoa hba hga; have KA : Below w.heap.size w wa := (show Below w.heap.size w _ from by repeat (first | assumption | exact Below.refl _ _ | refine Below.drew ?_ | refine Below.alloc ?_ (by first | omega | (simp; done) | (simp; omega)) _)).trans hba; have hKA : w.heap.size ≤ wa.heap.size := KA.size)
                | (refine step_app rfl (.tmp 37) (.tmp 39) 33 3 rfl Try.underlying33 infoI rfl (by omega) (by omega) encI_len encI_one w.heap.size _ ca ([] ++ M.take n) [x] (some ⟨_, 0, none⟩) 1 1 (n) (n + 1) (by rw [List.nil_append]; exact hkt) rfl rfl (by simp [Act.eval, Act.put] <;> rfl) rfl (fun ad had j u hu => by cases had; first | exact box_of _ wa x _ rfl _ _ (by first | rfl | simp) j u hu | exact (hga.cell_far _ (by first | (simp [Addr.add_mid]; done) | (simp [Addr.add_mid]; omega)) (by first | (simp [Addr.add_mid, Value.ownBlock]; done) | (simp [Addr.add_mid, Value.ownBlock]; omega))).trans (box_of _ (w.alloc (.cells #[] 3)) x _ rfl _ _ (by first | rfl | simp) j u hu) | exact (hga.cell_far _ (by first | (simp [Addr.add_mid]; done) | (simp [Addr.add_mid]; omega)) (by first | (simp [Addr.add_mid, Value.ownBlock]; done) | (simp [Addr.add_mid, Value.ownBlock]; omega))).trans ((World.cell?_alloc_lt _ _ _ (by simp [Addr.add_mid])).trans (box_of _ w x _ rfl _ _ (by first | rfl | simp) j u hu))) (fun h => by cases h) (by first | exact hoa | exact World.ownsRow.alloc hoa _) (by first | omega | (simp; done) | (simp; omega)) (by omega) ?_; intro Ab cb wb hob hbb hgb; have KB : Below w.heap.size w wb := (show Below w.heap.size w _ from by repeat (first | assumption | exact Below.refl _ _ | refine Below.drew ?_ | refine Below.alloc ?_ (by first | omega | (simp; done) | (simp; omega)) _)).trans hbb; have hKB : w.heap.size ≤ wb.heap.size := KB.size)
                | (refine step_app rfl (.tmp 40) (.tmp 43) 33 3 rfl Try.underlying33 infoI rfl (by omega) (by omega) encI_len encI_one w.heap.size _ cb ([] ++ M.take n ++ [x]) (([] : List Int)) (some ⟨b, o + n, none⟩) 0 (cap - n) (n + 1) (n + 1 + 0) (by rw [List.length_append, List.nil_append, hkt]; rfl) (by omega) rfl (by simp [Act.eval, Act.put]) rfl (fun ad had j u hu => by simp at hu) (fun h => by cases h) (by first | exact hob | exact World.ownsRow.alloc hob _) (by first | omega | (simp; done) | (simp; omega)) (by omega) ?_; intro Ac cc wc hoc hbc hgc; have KC : Below w.heap.size w wc := (show Below w.heap.size w _ from by repeat (first | assumption | exact Below.refl _ _ | refine Below.drew ?_ | refine Below.alloc ?_ (by first | omega | (simp; done) | (simp; omega)) _)).trans hbc))
            all_goals
              rw [HKE.out] at hoc
              go_wp2_with fail
              go_ret
              rw [← HPUT.out] at hoc
              obtain ⟨q, hq⟩ := own_some hoc (by rw [HPUT.out, insL_len _ _ _ (by omega)]; omega)
              subst hq
              have hz : n + 1 + 0 = n + 1 := by omega
              rw [hz] at hoc
              refine ⟨q, cc, congrArg Ending.returned ?_, hoc, KC⟩
              simp [Array.getD, List.length_set]
end Go.Proofs.Ytlphegjhkchglaa
