/- Uses of parts: the reference's order. -/
import Derived.Test.YtlphegjhkchglaaUseS
namespace Go.Proofs.Ytlphegjhkchglaa
open Go Go.RowKit
set_option linter.unusedVariables false
set_option linter.unusedSimpArgs false
def ordK (U : List Use) (k : Nat) : List Nat := ordL (gtK (dayU U)) (List.range k)
theorem ordK_len (U : List Use) (k : Nat) : (ordK U k).length = k := by rw [ordK, ordL_len, List.length_range]
theorem ordK_lt {U : List Use} {k c : Nat} (h : c ∈ ordK U k) : c < k := by simpa using (ordL_perm (List.range k)).mem_iff.1 h
theorem ordK_step (U : List Use) (k : Nat) : ordK U (k + 1) = insS (gtK (dayU U)) (ordK U k) k := by rw [ordK, List.range_succ, ordL_snoc]; rfl
theorem toI_get {l : List Nat} {k : Nat} {x : Int} (h : (toI l)[k]? = some x) : ∃ c : Nat, l[k]? = some c ∧ x = (c : Int) := by
  simp only [toI, List.getElem?_map, Option.map_eq_some_iff] at h
  obtain ⟨c, h1, h2⟩ := h
  exact ⟨c, h1, h2.symm⟩
set_option maxRecDepth 100000 in
set_option maxHeartbeats 8000000 in
theorem l23Order_any (U : List Use) (A : Option Addr) (c : Nat) (w : World) (r1 : Rd Use.enc 3 w.heap.size w A U) (hu : U.length ≤ 20) :
    Calls Try.prog 81 #[.slice A U.length c] w fun e w' => ∃ q cap', e = .returned (.slice (some ⟨q, 0, none⟩) U.length cap') ∧ Own encI 1 3 w.heap.size w' (.slice (some ⟨q, 0, none⟩) U.length cap') (toI (ordU U)) ∧ Below w.heap.size w w' := by
  have hba : Below w.heap.size w (w.alloc (.cells #[] 3)) := (Below.refl _ _).alloc (Nat.le_refl _) _
  have hown0 : Own encI 1 3 w.heap.size (w.alloc (.cells #[] 3)) (.slice (some ⟨w.heap.size, 0, none⟩) 0 0) [] := own_empty (Nat.le_refl _)
  go_enter Try.func81, Try.ntmps81
  go_wp2_with fail
  go_loopw [4, 3] (fun i m wr => ∃ (k q cap' : Nat), k ≤ U.length ∧ i = .int .i64 k ∧ m = .slice (some ⟨q, 0, none⟩) k cap' ∧ Own encI 1 3 w.heap.size wr (.slice (some ⟨q, 0, none⟩) k cap') (toI (ordK U k)) ∧ Below w.heap.size w wr) (fun i _ _ => U.length - (intOf i).toNat)
  case atStart => exact ⟨0, _, _, Nat.zero_le _, rfl, rfl, hown0, hba⟩
  case round =>
    clear hown0 hba
    obtain ⟨k, q, cap, hk, rfl, rfl, ho, hbel⟩ := hrel
    obtain ⟨W1, hW1⟩ : ∃ W1 : World, W1 = wr := ⟨_, rfl⟩
    subst hW1
    by_cases hlt : k < U.length
    · have hki : (k : Int) < (U.length : Int) := by omega
      obtain ⟨bu, ou, rfl, _, hcu⟩ := Use.rd_at r1 (by intro h; subst h; simp at hlt)
      have hgk := List.getElem?_eq_getElem hlt
      have yk := below_cell hbel (hcu k _ hgk).2.1
      have hdk := dayU_at hgk
      generalize U[k] = uk at *
      have hol := ordK_len U k
      have hom := fun c (h : c ∈ ordK U k) => ordK_lt h
      have hst := ordK_step U k
      generalize ordK U k = O at *
      have HST := hide hst; have HOM := hide hom; have HDK := hide hdk; have HCU := hide (fun (c : Nat) (u : Use) (h : U[c]? = some u) => below_cell hbel (hcu c u h).2.1); clear hst hom hdk hcu hgk
      have HO := hide ho
      have hMl : (toI O).length = k := by rw [toI_len, hol]
      have hcap := own_cple ho hMl
      clear ho
      go_wp2_with fail
      go_loopw [5] (fun i wr => ∃ p : Nat, p ≤ k ∧ i = .int .i64 p ∧ Hid (∀ (j : Nat) (c : Nat), p ≤ j → O[j]? = some c → gtK (dayU U) c k = true) ∧ Below W1.heap.size W1 wr) (fun i _ => (intOf i).toNat)
      case atStart => exact ⟨k, Nat.le_refl _, rfl, hide (fun j c hj h => by rw [List.getElem?_eq_none (by omega)] at h; cases h), Below.refl _ _⟩
      case round =>
        obtain ⟨p, hp, rfl, hhi, hb2⟩ := hrel
        have yk2 := below_cell hb2 yk
        have hend : (∀ c, 0 < p → O[p - 1]? = some c → gtK (dayU U) c k = false) → toI (ordK U (k + 1)) = insL (toI O) p (k : Int) := fun h => by
          rw [HST.out, insS, posR_is (by omega) hhi.out h, toI_ins]
        have HEND := hide hend; clear hend
        by_cases hp0 : p = 0
        · subst hp0
          have HP := hide (HEND.out (fun c h => absurd h (by omega)))
          have a0 := after_cell yk2
          go_wp2_with fail
          refine wp_region_after (by kernel_rfl) (by kernel_rfl) ?_
          repeat (go_big_quiet_step (fail))
          refine wpQuiet_nil ?_
          rintro W3 ⟨⟨_, hb3⟩, rfl⟩
          clear a0 HEND hhi
          have B3 := below_step hb2 hb3 (Nat.le_refl _)
          have hr : Rd encI 1 W3.heap.size W3 (some ⟨q, 0, none⟩) (toI O) := Own.rd_of encI_len (Own.below HO.out B3)
          have hA : (some ⟨q, 0, none⟩ : Option Addr) ≠ none := by simp
          obtain ⟨A, hAq⟩ : ∃ A : Option Addr, A = some ⟨q, 0, none⟩ := ⟨_, rfl⟩
          rw [← hAq] at hr hA ⊢
          clear hAq
          by_cases hk00 : k = 0
          · subst hk00
            replace HP := hide (show toI (ordK U (0 + 1)) = insL (toI O) 0 (0 : Int) from HP.out)
            rcases A with _ | ad
            · exact absurd rfl hA
            · by_cases hck : cap = 0
              · subst hck
                have hkt : ((toI O).take 0).length = 0 := by rw [List.length_take]; omega
                have hdk : (toI O).drop 0 = [] := by rw [List.drop_eq_nil_iff]; omega
                have hke : ([] ++ (toI O).take 0 ++ [(0 : Int)]) ++ ([] : List Int) = insL (toI O) 0 (0 : Int) := by unfold insL; rw [hdk]; simp
                clear hdk
                have HKE := hide hke; clear hke
                go_wp2_with fail
                have K0 : Below W3.heap.size W3 W3 := Below.refl _ _
                go_region_held_law (fun w' => True) (exact trivial)
                  (first
                    | (refine step_app rfl (.tmp 36) (.tmp 39) 33 3 rfl Try.underlying33 infoI rfl (by omega) (by omega) encI_len encI_one W3.heap.size _ 0 [] ((toI O).take 0) (some ad) 0 0 0 0 rfl (by omega) rfl (by simp [Act.eval, Act.put]) hkt (fun ad had j u hu => by simp at hu) (fun h => by cases h) (by first | exact own_none (by first | rfl | simp) (by first | omega | simp) | exact World.ownsRow.alloc (own_none (by first | rfl | simp) (by first | omega | simp)) _) (by first | omega | (simp; done) | (simp; omega)) (by omega) ?_; intro Aa ca wa hoa hba hga; have KA : Below W3.heap.size W3 wa := (show Below W3.heap.size W3 _ from by repeat (first | assumption | exact Below.refl _ _ | refine Below.drew ?_ | refine Below.alloc ?_ (by first | omega | (simp; done) | (simp; omega)) _)).trans hba; have hKA : W3.heap.size ≤ wa.heap.size := KA.size)
                    | (refine step_app rfl (.tmp 40) (.tmp 42) 33 3 rfl Try.underlying33 infoI rfl (by omega) (by omega) encI_len encI_one W3.heap.size _ ca ([] ++ (toI O).take 0) [(0 : Int)] (some ⟨_, 0, none⟩) 1 1 (0) (0 + 1) (by rw [List.nil_append]; exact hkt) rfl rfl (by simp [Act.eval, Act.put] <;> rfl) rfl (fun ad had j u hu => by cases had; first | exact box_of _ wa (0 : Int) _ rfl _ _ (by first | rfl | simp) j u hu | exact (hga.cell_far _ (by first | (simp [Addr.add_mid]; done) | (simp [Addr.add_mid]; omega)) (by first | (simp [Addr.add_mid, Value.ownBlock]; done) | (simp [Addr.add_mid, Value.ownBlock]; omega))).trans (box_of _ (W3.alloc (.cells #[] 3)) (0 : Int) _ rfl _ _ (by first | rfl | simp) j u hu) | exact (hga.cell_far _ (by first | (simp [Addr.add_mid]; done) | (simp [Addr.add_mid]; omega)) (by first | (simp [Addr.add_mid, Value.ownBlock]; done) | (simp [Addr.add_mid, Value.ownBlock]; omega))).trans ((World.cell?_alloc_lt _ _ _ (by simp [Addr.add_mid])).trans (box_of _ W3 (0 : Int) _ rfl _ _ (by first | rfl | simp) j u hu))) (fun h => by cases h) (by first | exact hoa | exact World.ownsRow.alloc hoa _) (by first | omega | (simp; done) | (simp; omega)) (by omega) ?_; intro Ab cb wb hob hbb hgb; have KB : Below W3.heap.size W3 wb := (show Below W3.heap.size W3 _ from by repeat (first | assumption | exact Below.refl _ _ | refine Below.drew ?_ | refine Below.alloc ?_ (by first | omega | (simp; done) | (simp; omega)) _)).trans hbb; have hKB : W3.heap.size ≤ wb.heap.size := KB.size)
                    | (refine step_app rfl (.tmp 43) (.tmp 46) 33 3 rfl Try.underlying33 infoI rfl (by omega) (by omega) encI_len encI_one W3.heap.size _ cb ([] ++ (toI O).take 0 ++ [(0 : Int)]) (([] : List Int)) (some ad) 0 0 (0 + 1) (0 + 1 + 0) (by rw [List.length_append, List.nil_append, hkt]; rfl) (by omega) rfl (by simp [Act.eval, Act.put]) rfl (fun ad had j u hu => by simp at hu) (fun h => by cases h) (by first | exact hob | exact World.ownsRow.alloc hob _) (by first | omega | (simp; done) | (simp; omega)) (by omega) ?_; intro Ac cc wc hoc hbc hgc; have KC : Below W3.heap.size W3 wc := (show Below W3.heap.size W3 _ from by repeat (first | assumption | exact Below.refl _ _ | refine Below.drew ?_ | refine Below.alloc ?_ (by first | omega | (simp; done) | (simp; omega)) _)).trans hbc))
                all_goals
                  rw [HKE.out] at hoc
                  go_wp2_with fail
                  rw [← HP.out] at hoc
                  obtain ⟨q2, hq2⟩ := own_some hoc (by rw [toI_len, ordK_len]; omega)
                  subst hq2
                  have hz : 0 + 1 + 0 = 0 + 1 := by omega
                  rw [hz] at hoc
                  go_roundw
                  case rel => exact ⟨0 + 1, q2, cc, by omega, by go_num, by first | rfl | exact sl_eq (by omega), Own.mono_ hoc (by have := hbel.size; have := B3.size; omega), below_step (below_step hbel B3 (Nat.le_refl _)) KC (Nat.le_refl _)⟩
                  case measure => simp [intOf] <;> omega
              · have hck3 : ¬ 0 = cap := fun h => hck h.symm
                have hkt : ((toI O).take 0).length = 0 := by rw [List.length_take]; omega
                have hdk : (toI O).drop 0 = [] := by rw [List.drop_eq_nil_iff]; omega
                have hke : ([] ++ (toI O).take 0 ++ [(0 : Int)]) ++ ([] : List Int) = insL (toI O) 0 (0 : Int) := by unfold insL; rw [hdk]; simp
                clear hdk
                have HKE := hide hke; clear hke
                go_wp2_with fail
                have K0 : Below W3.heap.size W3 W3 := Below.refl _ _
                go_region_held_law (fun w' => True) (exact trivial)
                  (first
                    | (refine step_app rfl (.tmp 36) (.tmp 39) 33 3 rfl Try.underlying33 infoI rfl (by omega) (by omega) encI_len encI_one W3.heap.size _ 0 [] ((toI O).take 0) (some ad) 0 cap 0 0 rfl (by omega) rfl (by simp [Act.eval, Act.put]) hkt (fun ad had j u hu => by simp at hu) (fun h => by cases h) (by first | exact own_none (by first | rfl | simp) (by first | omega | simp) | exact World.ownsRow.alloc (own_none (by first | rfl | simp) (by first | omega | simp)) _) (by first | omega | (simp; done) | (simp; omega)) (by omega) ?_; intro Aa ca wa hoa hba hga; have KA : Below W3.heap.size W3 wa := (show Below W3.heap.size W3 _ from by repeat (first | assumption | exact Below.refl _ _ | refine Below.drew ?_ | refine Below.alloc ?_ (by first | omega | (simp; done) | (simp; omega)) _)).trans hba; have hKA : W3.heap.size ≤ wa.heap.size := KA.size)
                    | (refine step_app rfl (.tmp 40) (.tmp 42) 33 3 rfl Try.underlying33 infoI rfl (by omega) (by omega) encI_len encI_one W3.heap.size _ ca ([] ++ (toI O).take 0) [(0 : Int)] (some ⟨_, 0, none⟩) 1 1 (0) (0 + 1) (by rw [List.nil_append]; exact hkt) rfl rfl (by simp [Act.eval, Act.put] <;> rfl) rfl (fun ad had j u hu => by cases had; first | exact box_of _ wa (0 : Int) _ rfl _ _ (by first | rfl | simp) j u hu | exact (hga.cell_far _ (by first | (simp [Addr.add_mid]; done) | (simp [Addr.add_mid]; omega)) (by first | (simp [Addr.add_mid, Value.ownBlock]; done) | (simp [Addr.add_mid, Value.ownBlock]; omega))).trans (box_of _ (W3.alloc (.cells #[] 3)) (0 : Int) _ rfl _ _ (by first | rfl | simp) j u hu) | exact (hga.cell_far _ (by first | (simp [Addr.add_mid]; done) | (simp [Addr.add_mid]; omega)) (by first | (simp [Addr.add_mid, Value.ownBlock]; done) | (simp [Addr.add_mid, Value.ownBlock]; omega))).trans ((World.cell?_alloc_lt _ _ _ (by simp [Addr.add_mid])).trans (box_of _ W3 (0 : Int) _ rfl _ _ (by first | rfl | simp) j u hu))) (fun h => by cases h) (by first | exact hoa | exact World.ownsRow.alloc hoa _) (by first | omega | (simp; done) | (simp; omega)) (by omega) ?_; intro Ab cb wb hob hbb hgb; have KB : Below W3.heap.size W3 wb := (show Below W3.heap.size W3 _ from by repeat (first | assumption | exact Below.refl _ _ | refine Below.drew ?_ | refine Below.alloc ?_ (by first | omega | (simp; done) | (simp; omega)) _)).trans hbb; have hKB : W3.heap.size ≤ wb.heap.size := KB.size)
                    | (refine step_app rfl (.tmp 43) (.tmp 46) 33 3 rfl Try.underlying33 infoI rfl (by omega) (by omega) encI_len encI_one W3.heap.size _ cb ([] ++ (toI O).take 0 ++ [(0 : Int)]) (([] : List Int)) (some ad) 0 cap (0 + 1) (0 + 1 + 0) (by rw [List.length_append, List.nil_append, hkt]; rfl) (by omega) rfl (by simp [Act.eval, Act.put]) rfl (fun ad had j u hu => by simp at hu) (fun h => by cases h) (by first | exact hob | exact World.ownsRow.alloc hob _) (by first | omega | (simp; done) | (simp; omega)) (by omega) ?_; intro Ac cc wc hoc hbc hgc; have KC : Below W3.heap.size W3 wc := (show Below W3.heap.size W3 _ from by repeat (first | assumption | exact Below.refl _ _ | refine Below.drew ?_ | refine Below.alloc ?_ (by first | omega | (simp; done) | (simp; omega)) _)).trans hbc))
                all_goals
                  rw [HKE.out] at hoc
                  go_wp2_with fail
                  rw [← HP.out] at hoc
                  obtain ⟨q2, hq2⟩ := own_some hoc (by rw [toI_len, ordK_len]; omega)
                  subst hq2
                  have hz : 0 + 1 + 0 = 0 + 1 := by omega
                  rw [hz] at hoc
                  go_roundw
                  case rel => exact ⟨0 + 1, q2, cc, by omega, by go_num, by first | rfl | exact sl_eq (by omega), Own.mono_ hoc (by have := hbel.size; have := B3.size; omega), below_step (below_step hbel B3 (Nat.le_refl _)) KC (Nat.le_refl _)⟩
                  case measure => simp [intOf] <;> omega
          · obtain ⟨b0, o0, hA3, _⟩ := rd_int hr (by intro h; rw [h] at hMl; simp at hMl; omega)
            subst hA3
            obtain ⟨b', o', hA2, hbw, hct, hcd⟩ := rd_part encI_len hr (by intro h; rw [h] at hMl; simp at hMl; omega) 0
            cases hA2
            replace hcd : ∀ j u, (((toI O).drop 0).flatMap encI)[j]? = some u → W3.cell? ⟨b0, o0 + 0 + j, none⟩ = some u := fun j u hu => by have := hcd j u hu; rwa [Nat.mul_one] at this
            have hkl : (0 : Int) ≤ (k : Int) := by omega
            have hck : ¬ cap = 0 := by omega
            have hnk : ¬ (k : Int) = 0 := by omega
            have hkt : ((toI O).take 0).length = 0 := by rw [List.length_take]; omega
            have hkd : ((toI O).drop 0).length = k := by rw [List.length_drop]; omega
            have hke : ([] ++ (toI O).take 0 ++ [(k : Int)]) ++ (toI O).drop 0 = insL (toI O) 0 (k : Int) := by simp [insL]
            have HKE := hide hke; clear hke
            go_wp2_with fail
            have K0 : Below W3.heap.size W3 W3 := Below.refl _ _
            go_region_held_law (fun w' => True) (exact trivial)
              (first
                | (refine step_app rfl (.tmp 36) (.tmp 39) 33 3 rfl Try.underlying33 infoI rfl (by omega) (by omega) encI_len encI_one W3.heap.size _ 0 [] ((toI O).take 0) (some ⟨b0, o0, none⟩) 0 cap 0 0 rfl (by omega) rfl (by simp [Act.eval, Act.put]) hkt (fun ad had j u hu => by cases had; rw [Addr.add_mid]; exact ((show Below W3.heap.size W3 _ from by repeat (first | assumption | exact Below.refl _ _ | refine Below.drew ?_ | refine Below.alloc ?_ (by first | omega | (simp; done) | (simp; omega)) _)).cell hbw).trans (hct j u hu)) (fun h => by cases h) (by first | exact own_none (by first | rfl | simp) (by first | omega | simp) | exact World.ownsRow.alloc (own_none (by first | rfl | simp) (by first | omega | simp)) _) (by first | omega | (simp; done) | (simp; omega)) (by omega) ?_; intro Aa ca wa hoa hba hga; have KA : Below W3.heap.size W3 wa := (show Below W3.heap.size W3 _ from by repeat (first | assumption | exact Below.refl _ _ | refine Below.drew ?_ | refine Below.alloc ?_ (by first | omega | (simp; done) | (simp; omega)) _)).trans hba; have hKA : W3.heap.size ≤ wa.heap.size := KA.size)
                | (refine step_app rfl (.tmp 40) (.tmp 42) 33 3 rfl Try.underlying33 infoI rfl (by omega) (by omega) encI_len encI_one W3.heap.size _ ca ([] ++ (toI O).take 0) [(k : Int)] (some ⟨_, 0, none⟩) 1 1 (0) (0 + 1) (by rw [List.nil_append]; exact hkt) rfl rfl (by simp [Act.eval, Act.put] <;> rfl) rfl (fun ad had j u hu => by cases had; first | exact box_of _ wa (k : Int) _ rfl _ _ (by first | rfl | simp) j u hu | exact (hga.cell_far _ (by first | (simp [Addr.add_mid]; done) | (simp [Addr.add_mid]; omega)) (by first | (simp [Addr.add_mid, Value.ownBlock]; done) | (simp [Addr.add_mid, Value.ownBlock]; omega))).trans (box_of _ (W3.alloc (.cells #[] 3)) (k : Int) _ rfl _ _ (by first | rfl | simp) j u hu) | exact (hga.cell_far _ (by first | (simp [Addr.add_mid]; done) | (simp [Addr.add_mid]; omega)) (by first | (simp [Addr.add_mid, Value.ownBlock]; done) | (simp [Addr.add_mid, Value.ownBlock]; omega))).trans ((World.cell?_alloc_lt _ _ _ (by simp [Addr.add_mid])).trans (box_of _ W3 (k : Int) _ rfl _ _ (by first | rfl | simp) j u hu))) (fun h => by cases h) (by first | exact hoa | exact World.ownsRow.alloc hoa _) (by first | omega | (simp; done) | (simp; omega)) (by omega) ?_; intro Ab cb wb hob hbb hgb; have KB : Below W3.heap.size W3 wb := (show Below W3.heap.size W3 _ from by repeat (first | assumption | exact Below.refl _ _ | refine Below.drew ?_ | refine Below.alloc ?_ (by first | omega | (simp; done) | (simp; omega)) _)).trans hbb; have hKB : W3.heap.size ≤ wb.heap.size := KB.size)
                | (refine step_app rfl (.tmp 43) (.tmp 46) 33 3 rfl Try.underlying33 infoI rfl (by omega) (by omega) encI_len encI_one W3.heap.size _ cb ([] ++ (toI O).take 0 ++ [(k : Int)]) ((toI O).drop 0) (some ⟨b0, o0, none⟩) k cap (0 + 1) (0 + 1 + k) (by rw [List.length_append, List.nil_append, hkt]; rfl) (by omega) rfl (by simp [Act.eval, Act.put]) hkd (fun ad had j u hu => by cases had; rw [Addr.add_mid]; exact ((show Below W3.heap.size W3 _ from by repeat (first | assumption | exact Below.refl _ _ | refine Below.drew ?_ | refine Below.alloc ?_ (by first | omega | (simp; done) | (simp; omega)) _)).cell hbw).trans (hcd j u hu)) (fun h => by cases h) (by first | exact hob | exact World.ownsRow.alloc hob _) (by first | omega | (simp; done) | (simp; omega)) (by omega) ?_; intro Ac cc wc hoc hbc hgc; have KC : Below W3.heap.size W3 wc := (show Below W3.heap.size W3 _ from by repeat (first | assumption | exact Below.refl _ _ | refine Below.drew ?_ | refine Below.alloc ?_ (by first | omega | (simp; done) | (simp; omega)) _)).trans hbc))
            all_goals
              rw [HKE.out] at hoc
              go_wp2_with fail
              rw [← HP.out] at hoc
              obtain ⟨q2, hq2⟩ := own_some hoc (by rw [toI_len, ordK_len]; omega)
              subst hq2
              have hz : 0 + 1 + k = k + 1 := by omega
              rw [hz] at hoc
              go_roundw
              case rel => exact ⟨k + 1, q2, cc, by omega, by go_num, by first | rfl | exact sl_eq (by omega), Own.mono_ hoc (by have := hbel.size; have := B3.size; omega), below_step (below_step hbel B3 (Nat.le_refl _)) KC (Nat.le_refl _)⟩
              case measure => simp [intOf] <;> omega
        · obtain ⟨m, hm⟩ : ∃ m : Nat, m = p - 1 := ⟨_, rfl⟩
          have hmk : m < k := by omega
          obtain ⟨c, hc⟩ : ∃ c, O[m]? = some c := ⟨_, List.getElem?_eq_getElem (by omega)⟩
          have hck := HOM.out c (List.mem_of_getElem? hc)
          have hcl : c < U.length := by omega
          have hgc := List.getElem?_eq_getElem hcl
          have yc := below_cell hb2 (HCU.out c _ hgc)
          have hdc := dayU_at hgc
          generalize U[c] = uc at *
          have yo := own_int (Own.below HO.out hb2) hMl (toI_at hc)
          have HC := hide hc; have HDC := hide hdc; clear hc hgc hdc
          have hg : gtK (dayU U) c k = decide (uk.day < uc.day) := by rw [gtK, HDK.out, HDC.out]
          have HG := hide hg; clear hg
          have hw1 : IntKind.i64.wrap ((p : Int) - 1) = (m : Int) := by rw [IntKind.wrap_i64]; omega
          have hw2 : IntKind.i64.wrap (m : Int) = (m : Int) := by rw [IntKind.wrap_i64]; omega
          have hw4 : wrap64 ((p : Int) - 1) = (m : Int) := by unfold wrap64; omega
          have hpi : (m : Int) < (k : Int) := by omega
          have hci : (c : Int) < (U.length : Int) := by omega
          have hpp : decide (0 < p) = true := decide_eq_true (by omega)
          have HM := hide hm; clear hm
          have a0 := after_cell yk2; have a1 := after_cell yc; have a2 := after_cell yo
          by_cases hgt : uk.day < uc.day
          · have hd : decide (uk.day < uc.day) = true := decide_eq_true hgt
            go_wp2_with fail
            refine wp_region_after (by kernel_rfl) (by kernel_rfl) ?_
            repeat (go_big_quiet_step (fail))
            refine wpQuiet_nil ?_
            rintro W3 ⟨⟨_, hb3⟩, rfl⟩
            clear a0 a1 a2
            have hm := HM.out
            go_wp2_with fail
            go_roundw
            case rel => exact ⟨m, by omega, by go_num, hide (fun j d hj hd2 => by
              rcases Nat.lt_or_eq_of_le hj with h3 | h3
              · exact hhi.out j d (by omega) hd2
              · subst h3; rw [HC.out] at hd2; injection hd2 with hd2; rw [← hd2, HG.out]; exact hd), below_step hb2 hb3 (Nat.le_refl _)⟩
            case measure => simp [intOf] <;> omega
          · have hd : decide (uk.day < uc.day) = false := decide_eq_false hgt
            have HP := hide (HEND.out (fun d _ hd2 => by rw [← HM.out, HC.out] at hd2; injection hd2 with hd2; rw [← hd2, HG.out]; exact hd))
            go_wp2_with fail
            refine wp_region_after (by kernel_rfl) (by kernel_rfl) ?_
            repeat (go_big_quiet_step (fail))
            refine wpQuiet_nil ?_
            rintro W3 ⟨⟨_, hb3⟩, rfl⟩
            clear a0 a1 a2 hw1 hw2 hw4 hpp HEND hhi
            have B3 := below_step hb2 hb3 (Nat.le_refl _)
            have hr : Rd encI 1 W3.heap.size W3 (some ⟨q, 0, none⟩) (toI O) := Own.rd_of encI_len (Own.below HO.out B3)
            have hA : (some ⟨q, 0, none⟩ : Option Addr) ≠ none := by simp
            obtain ⟨A, hAq⟩ : ∃ A : Option Addr, A = some ⟨q, 0, none⟩ := ⟨_, rfl⟩
            rw [← hAq] at hr hA ⊢
            clear hAq
            by_cases hpk2 : p < k
            · obtain ⟨b0, o0, hA3, _⟩ := rd_int hr (by intro h; rw [h] at hMl; simp at hMl; omega)
              subst hA3
              obtain ⟨b', o', hA2, hbw, hct, hcd⟩ := rd_part encI_len hr (by intro h; rw [h] at hMl; simp at hMl; omega) p
              cases hA2
              replace hcd : ∀ j u, (((toI O).drop p).flatMap encI)[j]? = some u → W3.cell? ⟨b0, o0 + p + j, none⟩ = some u := fun j u hu => by have := hcd j u hu; rwa [Nat.mul_one] at this
              have hk0 : (0 : Int) ≤ (p : Int) := by omega
              have hkl : (p : Int) ≤ (k : Int) := by omega
              have hkc : p ≤ cap := by omega
              have hck : ¬ cap = p := by omega
              have hkt : ((toI O).take p).length = p := by rw [List.length_take]; omega
              have hkd : ((toI O).drop p).length = (k - p) := by rw [List.length_drop]; omega
              have hke : ([] ++ (toI O).take p ++ [(k : Int)]) ++ (toI O).drop p = insL (toI O) p (k : Int) := by simp [insL]
              have HKE := hide hke; clear hke
              go_wp2_with fail
              have K0 : Below W3.heap.size W3 W3 := Below.refl _ _
              go_region_held_law (fun w' => True) (exact trivial)
                (first
                  | (refine step_app rfl (.tmp 36) (.tmp 39) 33 3 rfl Try.underlying33 infoI rfl (by omega) (by omega) encI_len encI_one W3.heap.size _ 0 [] ((toI O).take p) (some ⟨b0, o0, none⟩) p cap 0 p rfl (by omega) rfl (by simp [Act.eval, Act.put]) hkt (fun ad had j u hu => by cases had; rw [Addr.add_mid]; exact ((show Below W3.heap.size W3 _ from by repeat (first | assumption | exact Below.refl _ _ | refine Below.drew ?_ | refine Below.alloc ?_ (by first | omega | (simp; done) | (simp; omega)) _)).cell hbw).trans (hct j u hu)) (fun h => by cases h) (by first | exact own_none (by first | rfl | simp) (by first | omega | simp) | exact World.ownsRow.alloc (own_none (by first | rfl | simp) (by first | omega | simp)) _) (by first | omega | (simp; done) | (simp; omega)) (by omega) ?_; intro Aa ca wa hoa hba hga; have KA : Below W3.heap.size W3 wa := (show Below W3.heap.size W3 _ from by repeat (first | assumption | exact Below.refl _ _ | refine Below.drew ?_ | refine Below.alloc ?_ (by first | omega | (simp; done) | (simp; omega)) _)).trans hba; have hKA : W3.heap.size ≤ wa.heap.size := KA.size)
                  | (refine step_app rfl (.tmp 40) (.tmp 42) 33 3 rfl Try.underlying33 infoI rfl (by omega) (by omega) encI_len encI_one W3.heap.size _ ca ([] ++ (toI O).take p) [(k : Int)] (some ⟨_, 0, none⟩) 1 1 (p) (p + 1) (by rw [List.nil_append]; exact hkt) rfl rfl (by simp [Act.eval, Act.put] <;> rfl) rfl (fun ad had j u hu => by cases had; first | exact box_of _ wa (k : Int) _ rfl _ _ (by first | rfl | simp) j u hu | exact (hga.cell_far _ (by first | (simp [Addr.add_mid]; done) | (simp [Addr.add_mid]; omega)) (by first | (simp [Addr.add_mid, Value.ownBlock]; done) | (simp [Addr.add_mid, Value.ownBlock]; omega))).trans (box_of _ (W3.alloc (.cells #[] 3)) (k : Int) _ rfl _ _ (by first | rfl | simp) j u hu) | exact (hga.cell_far _ (by first | (simp [Addr.add_mid]; done) | (simp [Addr.add_mid]; omega)) (by first | (simp [Addr.add_mid, Value.ownBlock]; done) | (simp [Addr.add_mid, Value.ownBlock]; omega))).trans ((World.cell?_alloc_lt _ _ _ (by simp [Addr.add_mid])).trans (box_of _ W3 (k : Int) _ rfl _ _ (by first | rfl | simp) j u hu))) (fun h => by cases h) (by first | exact hoa | exact World.ownsRow.alloc hoa _) (by first | omega | (simp; done) | (simp; omega)) (by omega) ?_; intro Ab cb wb hob hbb hgb; have KB : Below W3.heap.size W3 wb := (show Below W3.heap.size W3 _ from by repeat (first | assumption | exact Below.refl _ _ | refine Below.drew ?_ | refine Below.alloc ?_ (by first | omega | (simp; done) | (simp; omega)) _)).trans hbb; have hKB : W3.heap.size ≤ wb.heap.size := KB.size)
                  | (refine step_app rfl (.tmp 43) (.tmp 46) 33 3 rfl Try.underlying33 infoI rfl (by omega) (by omega) encI_len encI_one W3.heap.size _ cb ([] ++ (toI O).take p ++ [(k : Int)]) ((toI O).drop p) (some ⟨b0, o0 + p, none⟩) (k - p) (cap - p) (p + 1) (p + 1 + (k - p)) (by rw [List.length_append, List.nil_append, hkt]; rfl) (by omega) rfl (by simp [Act.eval, Act.put]) hkd (fun ad had j u hu => by cases had; rw [Addr.add_mid]; exact ((show Below W3.heap.size W3 _ from by repeat (first | assumption | exact Below.refl _ _ | refine Below.drew ?_ | refine Below.alloc ?_ (by first | omega | (simp; done) | (simp; omega)) _)).cell hbw).trans (hcd j u hu)) (fun h => by cases h) (by first | exact hob | exact World.ownsRow.alloc hob _) (by first | omega | (simp; done) | (simp; omega)) (by omega) ?_; intro Ac cc wc hoc hbc hgc; have KC : Below W3.heap.size W3 wc := (show Below W3.heap.size W3 _ from by repeat (first | assumption | exact Below.refl _ _ | refine Below.drew ?_ | refine Below.alloc ?_ (by first | omega | (simp; done) | (simp; omega)) _)).trans hbc))
              all_goals
                rw [HKE.out] at hoc
                go_wp2_with fail
                rw [← HP.out] at hoc
                obtain ⟨q2, hq2⟩ := own_some hoc (by rw [toI_len, ordK_len]; omega)
                subst hq2
                have hz : p + 1 + (k - p) = k + 1 := by omega
                rw [hz] at hoc
                go_roundw
                case rel => exact ⟨k + 1, q2, cc, by omega, by go_num, by first | rfl | exact sl_eq (by omega), Own.mono_ hoc (by have := hbel.size; have := B3.size; omega), below_step (below_step hbel B3 (Nat.le_refl _)) KC (Nat.le_refl _)⟩
                case measure => simp [intOf] <;> omega
            · obtain rfl : k = p := by omega
              have hn0 : ¬ k = 0 := hp0
              rcases A with _ | ad
              · exact absurd rfl hA
              · have hn0' := hn0
                have hk0 : (0 : Int) ≤ (k : Int) := by omega
                obtain ⟨b, o, hA2, hbw, hct, _⟩ := rd_part encI_len hr (by intro h; rw [h] at hMl; simp at hMl; omega) k
                cases hA2
                by_cases hck : cap = k
                · have hck2 := hck.symm; clear hck
                  subst hck2
                  have hkt : ((toI O).take k).length = k := by rw [List.length_take]; omega
                  have hdk : (toI O).drop k = [] := by rw [List.drop_eq_nil_iff]; omega
                  have hke : ([] ++ (toI O).take k ++ [(k : Int)]) ++ ([] : List Int) = insL (toI O) k (k : Int) := by unfold insL; rw [hdk]; simp
                  clear hdk
                  have HKE := hide hke; clear hke
                  go_wp2_with fail
                  have K0 : Below W3.heap.size W3 W3 := Below.refl _ _
                  go_region_held_law (fun w' => True) (exact trivial)
                    (first
                      | (refine step_app rfl (.tmp 36) (.tmp 39) 33 3 rfl Try.underlying33 infoI rfl (by omega) (by omega) encI_len encI_one W3.heap.size _ 0 [] ((toI O).take k) (some ⟨b, o, none⟩) k k 0 k rfl (by omega) rfl (by simp [Act.eval, Act.put]) hkt (fun ad had j u hu => by cases had; rw [Addr.add_mid]; exact ((show Below W3.heap.size W3 _ from by repeat (first | assumption | exact Below.refl _ _ | refine Below.drew ?_ | refine Below.alloc ?_ (by first | omega | (simp; done) | (simp; omega)) _)).cell hbw).trans (hct j u hu)) (fun h => by cases h) (by first | exact own_none (by first | rfl | simp) (by first | omega | simp) | exact World.ownsRow.alloc (own_none (by first | rfl | simp) (by first | omega | simp)) _) (by first | omega | (simp; done) | (simp; omega)) (by omega) ?_; intro Aa ca wa hoa hba hga; have KA : Below W3.heap.size W3 wa := (show Below W3.heap.size W3 _ from by repeat (first | assumption | exact Below.refl _ _ | refine Below.drew ?_ | refine Below.alloc ?_ (by first | omega | (simp; done) | (simp; omega)) _)).trans hba; have hKA : W3.heap.size ≤ wa.heap.size := KA.size)
                      | (refine step_app rfl (.tmp 40) (.tmp 42) 33 3 rfl Try.underlying33 infoI rfl (by omega) (by omega) encI_len encI_one W3.heap.size _ ca ([] ++ (toI O).take k) [(k : Int)] (some ⟨_, 0, none⟩) 1 1 (k) (k + 1) (by rw [List.nil_append]; exact hkt) rfl rfl (by simp [Act.eval, Act.put] <;> rfl) rfl (fun ad had j u hu => by cases had; first | exact box_of _ wa (k : Int) _ rfl _ _ (by first | rfl | simp) j u hu | exact (hga.cell_far _ (by first | (simp [Addr.add_mid]; done) | (simp [Addr.add_mid]; omega)) (by first | (simp [Addr.add_mid, Value.ownBlock]; done) | (simp [Addr.add_mid, Value.ownBlock]; omega))).trans (box_of _ (W3.alloc (.cells #[] 3)) (k : Int) _ rfl _ _ (by first | rfl | simp) j u hu) | exact (hga.cell_far _ (by first | (simp [Addr.add_mid]; done) | (simp [Addr.add_mid]; omega)) (by first | (simp [Addr.add_mid, Value.ownBlock]; done) | (simp [Addr.add_mid, Value.ownBlock]; omega))).trans ((World.cell?_alloc_lt _ _ _ (by simp [Addr.add_mid])).trans (box_of _ W3 (k : Int) _ rfl _ _ (by first | rfl | simp) j u hu))) (fun h => by cases h) (by first | exact hoa | exact World.ownsRow.alloc hoa _) (by first | omega | (simp; done) | (simp; omega)) (by omega) ?_; intro Ab cb wb hob hbb hgb; have KB : Below W3.heap.size W3 wb := (show Below W3.heap.size W3 _ from by repeat (first | assumption | exact Below.refl _ _ | refine Below.drew ?_ | refine Below.alloc ?_ (by first | omega | (simp; done) | (simp; omega)) _)).trans hbb; have hKB : W3.heap.size ≤ wb.heap.size := KB.size)
                      | (refine step_app rfl (.tmp 43) (.tmp 46) 33 3 rfl Try.underlying33 infoI rfl (by omega) (by omega) encI_len encI_one W3.heap.size _ cb ([] ++ (toI O).take k ++ [(k : Int)]) (([] : List Int)) (some ⟨b, o, none⟩) 0 0 (k + 1) (k + 1 + 0) (by rw [List.length_append, List.nil_append, hkt]; rfl) (by omega) rfl (by simp [Act.eval, Act.put]) rfl (fun ad had j u hu => by simp at hu) (fun h => by cases h) (by first | exact hob | exact World.ownsRow.alloc hob _) (by first | omega | (simp; done) | (simp; omega)) (by omega) ?_; intro Ac cc wc hoc hbc hgc; have KC : Below W3.heap.size W3 wc := (show Below W3.heap.size W3 _ from by repeat (first | assumption | exact Below.refl _ _ | refine Below.drew ?_ | refine Below.alloc ?_ (by first | omega | (simp; done) | (simp; omega)) _)).trans hbc))
                  all_goals
                    rw [HKE.out] at hoc
                    go_wp2_with fail
                    rw [← HP.out] at hoc
                    obtain ⟨q2, hq2⟩ := own_some hoc (by rw [toI_len, ordK_len]; omega)
                    subst hq2
                    have hz : k + 1 + 0 = k + 1 := by omega
                    rw [hz] at hoc
                    go_roundw
                    case rel => exact ⟨k + 1, q2, cc, by omega, by go_num, by first | rfl | exact sl_eq (by omega), Own.mono_ hoc (by have := hbel.size; have := B3.size; omega), below_step (below_step hbel B3 (Nat.le_refl _)) KC (Nat.le_refl _)⟩
                    case measure => simp [intOf] <;> omega
                · have hck3 : ¬ k = cap := fun h => hck h.symm
                  have hkc : k ≤ cap := by omega
                  have hkt : ((toI O).take k).length = k := by rw [List.length_take]; omega
                  have hdk : (toI O).drop k = [] := by rw [List.drop_eq_nil_iff]; omega
                  have hke : ([] ++ (toI O).take k ++ [(k : Int)]) ++ ([] : List Int) = insL (toI O) k (k : Int) := by unfold insL; rw [hdk]; simp
                  clear hdk
                  have HKE := hide hke; clear hke
                  go_wp2_with fail
                  have K0 : Below W3.heap.size W3 W3 := Below.refl _ _
                  go_region_held_law (fun w' => True) (exact trivial)
                    (first
                      | (refine step_app rfl (.tmp 36) (.tmp 39) 33 3 rfl Try.underlying33 infoI rfl (by omega) (by omega) encI_len encI_one W3.heap.size _ 0 [] ((toI O).take k) (some ⟨b, o, none⟩) k cap 0 k rfl (by omega) rfl (by simp [Act.eval, Act.put]) hkt (fun ad had j u hu => by cases had; rw [Addr.add_mid]; exact ((show Below W3.heap.size W3 _ from by repeat (first | assumption | exact Below.refl _ _ | refine Below.drew ?_ | refine Below.alloc ?_ (by first | omega | (simp; done) | (simp; omega)) _)).cell hbw).trans (hct j u hu)) (fun h => by cases h) (by first | exact own_none (by first | rfl | simp) (by first | omega | simp) | exact World.ownsRow.alloc (own_none (by first | rfl | simp) (by first | omega | simp)) _) (by first | omega | (simp; done) | (simp; omega)) (by omega) ?_; intro Aa ca wa hoa hba hga; have KA : Below W3.heap.size W3 wa := (show Below W3.heap.size W3 _ from by repeat (first | assumption | exact Below.refl _ _ | refine Below.drew ?_ | refine Below.alloc ?_ (by first | omega | (simp; done) | (simp; omega)) _)).trans hba; have hKA : W3.heap.size ≤ wa.heap.size := KA.size)
                      | (refine step_app rfl (.tmp 40) (.tmp 42) 33 3 rfl Try.underlying33 infoI rfl (by omega) (by omega) encI_len encI_one W3.heap.size _ ca ([] ++ (toI O).take k) [(k : Int)] (some ⟨_, 0, none⟩) 1 1 (k) (k + 1) (by rw [List.nil_append]; exact hkt) rfl rfl (by simp [Act.eval, Act.put] <;> rfl) rfl (fun ad had j u hu => by cases had; first | exact box_of _ wa (k : Int) _ rfl _ _ (by first | rfl | simp) j u hu | exact (hga.cell_far _ (by first | (simp [Addr.add_mid]; done) | (simp [Addr.add_mid]; omega)) (by first | (simp [Addr.add_mid, Value.ownBlock]; done) | (simp [Addr.add_mid, Value.ownBlock]; omega))).trans (box_of _ (W3.alloc (.cells #[] 3)) (k : Int) _ rfl _ _ (by first | rfl | simp) j u hu) | exact (hga.cell_far _ (by first | (simp [Addr.add_mid]; done) | (simp [Addr.add_mid]; omega)) (by first | (simp [Addr.add_mid, Value.ownBlock]; done) | (simp [Addr.add_mid, Value.ownBlock]; omega))).trans ((World.cell?_alloc_lt _ _ _ (by simp [Addr.add_mid])).trans (box_of _ W3 (k : Int) _ rfl _ _ (by first | rfl | simp) j u hu))) (fun h => by cases h) (by first | exact hoa | exact World.ownsRow.alloc hoa _) (by first | omega | (simp; done) | (simp; omega)) (by omega) ?_; intro Ab cb wb hob hbb hgb; have KB : Below W3.heap.size W3 wb := (show Below W3.heap.size W3 _ from by repeat (first | assumption | exact Below.refl _ _ | refine Below.drew ?_ | refine Below.alloc ?_ (by first | omega | (simp; done) | (simp; omega)) _)).trans hbb; have hKB : W3.heap.size ≤ wb.heap.size := KB.size)
                      | (refine step_app rfl (.tmp 43) (.tmp 46) 33 3 rfl Try.underlying33 infoI rfl (by omega) (by omega) encI_len encI_one W3.heap.size _ cb ([] ++ (toI O).take k ++ [(k : Int)]) (([] : List Int)) (some ⟨b, o + k, none⟩) 0 (cap - k) (k + 1) (k + 1 + 0) (by rw [List.length_append, List.nil_append, hkt]; rfl) (by omega) rfl (by simp [Act.eval, Act.put]) rfl (fun ad had j u hu => by simp at hu) (fun h => by cases h) (by first | exact hob | exact World.ownsRow.alloc hob _) (by first | omega | (simp; done) | (simp; omega)) (by omega) ?_; intro Ac cc wc hoc hbc hgc; have KC : Below W3.heap.size W3 wc := (show Below W3.heap.size W3 _ from by repeat (first | assumption | exact Below.refl _ _ | refine Below.drew ?_ | refine Below.alloc ?_ (by first | omega | (simp; done) | (simp; omega)) _)).trans hbc))
                  all_goals
                    rw [HKE.out] at hoc
                    go_wp2_with fail
                    rw [← HP.out] at hoc
                    obtain ⟨q2, hq2⟩ := own_some hoc (by rw [toI_len, ordK_len]; omega)
                    subst hq2
                    have hz : k + 1 + 0 = k + 1 := by omega
                    rw [hz] at hoc
                    go_roundw
                    case rel => exact ⟨k + 1, q2, cc, by omega, by go_num, by first | rfl | exact sl_eq (by omega), Own.mono_ hoc (by have := hbel.size; have := B3.size; omega), below_step (below_step hbel B3 (Nat.le_refl _)) KC (Nat.le_refl _)⟩
                    case measure => simp [intOf] <;> omega
    · obtain rfl : k = U.length := by omega
      go_wp2_with fail
      go_ret
      exact ⟨q, cap, rfl, ho, hbel⟩
end Go.Proofs.Ytlphegjhkchglaa
