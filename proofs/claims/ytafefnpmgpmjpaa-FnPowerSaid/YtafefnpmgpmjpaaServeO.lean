/- Consumers in the order of their ranks: the reference's function. -/
import Derived.Test.YtafefnpmgpmjpaaServeP
import Derived.Deep.RegionHeldLaw
namespace Go.Proofs.Ytafefnpmgpmjpaa
open Go Go.RowKit
set_option linter.unusedVariables false
set_option linter.unusedSimpArgs false
set_option maxRecDepth 100000 in
set_option maxHeartbeats 8000000 in
theorem l18Order_any (L : List Consumer) (A : Option Addr) (c : Nat) (w : World) (r0 : Rd Consumer.enc 3 w.heap.size w A L) (hu : L.length ≤ 8) :
    Calls Try.prog 67 #[.slice A L.length c] w fun e w' => ∃ q cap', e = .returned (.slice (some ⟨q, 0, none⟩) L.length cap') ∧ Own Consumer.enc 3 65 w.heap.size w' (.slice (some ⟨q, 0, none⟩) L.length cap') (ordR L) ∧ Below w.heap.size w w' := by
  go_enter Try.func67, Try.ntmps67
  go_wp2_with fail
  have hba0 : Below w.heap.size w (w.alloc (.cells #[] 65)) := (Below.refl _ _).alloc (Nat.le_refl _) _
  have hown0 : Own Consumer.enc 3 65 w.heap.size (w.alloc (.cells #[] 65)) (.slice (some ⟨w.heap.size, 0, none⟩) 0 0) [] := own_empty (Nat.le_refl _)
  go_loopw [4, 3] (fun i m wr => ∃ (k q cap' : Nat), k ≤ L.length ∧ i = .int .i64 k ∧ m = .slice (some ⟨q, 0, none⟩) k cap' ∧ Own Consumer.enc 3 65 w.heap.size wr (.slice (some ⟨q, 0, none⟩) k cap') (ordL gtR (L.take k)) ∧ Below w.heap.size w wr) (fun i _ _ => L.length - (intOf i).toNat)
  case atStart => exact ⟨0, _, _, Nat.zero_le _, rfl, rfl, hown0, hba0⟩
  case round =>
    clear hown0 hba0
    obtain ⟨k, q, cap, hk, rfl, rfl, ho, hbel⟩ := hrel
    obtain ⟨W1, hW1⟩ : ∃ W1 : World, W1 = wr := ⟨_, rfl⟩
    subst hW1
    by_cases hlt : k < L.length
    · have hki : (k : Int) < (L.length : Int) := by omega
      obtain ⟨bl, ol, rfl, hbl, hcl⟩ := Consumer.rd_at r0 (by intro h; subst h; simp at hlt)
      have hgk := List.getElem?_eq_getElem hlt
      obtain ⟨x0, x1, x2⟩ := hcl k _ hgk
      have hst := ordL_take (gt := gtR) hlt
      generalize L[k] = x at *
      have hol : (ordL gtR (L.take k)).length = k := by rw [ordL_len, List.length_take]; omega
      generalize ordL gtR (L.take k) = O at *
      replace x0 := below_cell hbel x0; replace x1 := below_cell hbel x1; replace x2 := below_cell hbel x2
      have HST := hide hst; clear hst hcl hgk
      have HO := hide ho
      have hMl : O.length = k := hol
      have hcap := own_cple ho hMl
      clear ho hol
      go_wp2_with fail
      go_loopw [5] (fun i wr => ∃ p : Nat, p ≤ k ∧ i = .int .i64 p ∧ Hid (∀ (j : Nat) (c : Consumer), p ≤ j → O[j]? = some c → gtR c x = true) ∧ Below W1.heap.size W1 wr) (fun i _ => (intOf i).toNat)
      case atStart => exact ⟨k, Nat.le_refl _, rfl, hide (fun j c hj h => by rw [List.getElem?_eq_none (by omega)] at h; cases h), Below.refl _ _⟩
      case round =>
        obtain ⟨p, hp, rfl, hhi, hb2⟩ := hrel
        replace x0 := below_cell hb2 x0; replace x1 := below_cell hb2 x1; replace x2 := below_cell hb2 x2
        have hend : (∀ c, 0 < p → O[p - 1]? = some c → gtR c x = false) → ordL gtR (L.take (k + 1)) = insL O p x := fun h => by
          rw [HST.out, insS, posR_is (by omega) hhi.out h]
        have HEND := hide hend; clear hend
        by_cases hp0 : p = 0
        · subst hp0
          have HP := hide (HEND.out (fun c h => absurd h (by omega)))
          have a0 := after_cell x0; have a1 := after_cell x1; have a2 := after_cell x2
          go_wp2_with fail
          refine wp_region_after (by kernel_rfl) (by kernel_rfl) ?_
          repeat (go_big_quiet_step (fail))
          refine wpQuiet_nil ?_
          rintro W3 ⟨⟨_, hb3⟩, rfl⟩
          clear a0 a1 a2 HEND hhi
          have B3 := below_step hb2 hb3 (Nat.le_refl _)
          have s0 := below_cell hb3 x0; have s1 := below_cell hb3 x1; have s2 := below_cell hb3 x2; clear x0 x1 x2
          have hS : bl < W3.heap.size := World.block_lt_of_cell? _ _ s0
          have hr : Rd Consumer.enc 3 W3.heap.size W3 (some ⟨q, 0, none⟩) O := Own.rd_of Consumer.enc_len (Own.below HO.out B3)
          have hA : (some ⟨q, 0, none⟩ : Option Addr) ≠ none := by simp
          obtain ⟨A, hAq⟩ : ∃ A : Option Addr, A = some ⟨q, 0, none⟩ := ⟨_, rfl⟩
          rw [← hAq] at hr hA ⊢
          clear hAq
          by_cases hk00 : k = 0
          · subst hk00
            simp only [Nat.zero_mul, Nat.add_zero] at s0 s1 s2
            rcases A with _ | ad
            · exact absurd rfl hA
            · by_cases hck : cap = 0
              · subst hck
                have hkt : (O.take 0).length = 0 := by rw [List.length_take]; omega
                have hdk : O.drop 0 = [] := by rw [List.drop_eq_nil_iff]; omega
                have hke : ([] ++ O.take 0 ++ [x]) ++ ([] : List Consumer) = insL O 0 x := by unfold insL; rw [hdk]; simp
                clear hdk
                have HKE := hide hke; clear hke
                go_wp2_with fail
                have K0 : Below W3.heap.size W3 W3 := Below.refl _ _
                have HF := hide (fun (X : World) (hX : Below W3.heap.size W3 X) => show X.cell? ⟨bl, ol, none⟩ = some (.string x.name) ∧ X.cell? ⟨bl, ol + 1, none⟩ = some (.int .i64 x.watts) ∧ X.cell? ⟨bl, ol + 2, none⟩ = some (.int .i64 x.rank) from ⟨(hX.cell hS).trans s0, (hX.cell hS).trans s1, (hX.cell hS).trans s2⟩)
                go_region_held_law (fun w' => w'.cell? ⟨bl, ol, none⟩ = some (.string x.name) ∧ w'.cell? ⟨bl, ol + 1, none⟩ = some (.int .i64 x.watts) ∧ w'.cell? ⟨bl, ol + 2, none⟩ = some (.int .i64 x.rank)) (exact HF.out _ (by repeat (first | assumption | exact Below.refl _ _ | refine Below.drew ?_ | refine Below.alloc ?_ (by first | omega | (simp; done) | (simp; omega)) _)))
                  (first
                    | (refine step_app rfl (.tmp 33) (.tmp 36) 28 65 rfl Try.underlying28 Consumer.infoE rfl (by omega) (by omega) Consumer.enc_len Consumer.enc_one W3.heap.size _ 0 [] (O.take 0) (some ad) 0 0 0 0 rfl (by omega) rfl (by simp [Act.eval, Act.put]) hkt (fun ad had j u hu => by simp at hu) (fun h => by cases h) (by first | exact own_none (by first | rfl | simp) (by first | omega | simp) | exact World.ownsRow.alloc (own_none (by first | rfl | simp) (by first | omega | simp)) _) (by first | omega | (simp; done) | (simp; omega)) (by omega) ?_; intro Aa ca wa hoa hba hga; have KA : Below W3.heap.size W3 wa := (show Below W3.heap.size W3 _ from by repeat (first | assumption | exact Below.refl _ _ | refine Below.drew ?_ | refine Below.alloc ?_ (by first | omega | (simp; done) | (simp; omega)) _)).trans hba; have hKA : W3.heap.size ≤ wa.heap.size := KA.size)
                    | (refine step_app rfl (.tmp 37) (.tmp 42) 28 65 rfl Try.underlying28 Consumer.infoE rfl (by omega) (by omega) Consumer.enc_len Consumer.enc_one W3.heap.size _ ca ([] ++ O.take 0) [x] (some ⟨_, 0, none⟩) 1 1 (0) (0 + 1) (by rw [List.nil_append]; exact hkt) rfl rfl (by simp [Act.eval, Act.put] <;> rfl) rfl (fun ad had j u hu => by cases had; first | exact box_of _ wa x _ rfl _ _ (by first | rfl | simp) j u hu | exact (hga.cell_far _ (by first | (simp [Addr.add_mid]; done) | (simp [Addr.add_mid]; omega)) (by first | (simp [Addr.add_mid, Value.ownBlock]; done) | (simp [Addr.add_mid, Value.ownBlock]; omega))).trans (box_of _ (W3.alloc (.cells #[] 65)) x _ rfl _ _ (by first | rfl | simp) j u hu) | exact (hga.cell_far _ (by first | (simp [Addr.add_mid]; done) | (simp [Addr.add_mid]; omega)) (by first | (simp [Addr.add_mid, Value.ownBlock]; done) | (simp [Addr.add_mid, Value.ownBlock]; omega))).trans ((World.cell?_alloc_lt _ _ _ (by simp [Addr.add_mid])).trans (box_of _ W3 x _ rfl _ _ (by first | rfl | simp) j u hu))) (fun h => by cases h) (by first | exact hoa | exact World.ownsRow.alloc hoa _) (by first | omega | (simp; done) | (simp; omega)) (by omega) ?_; intro Ab cb wb hob hbb hgb; have KB : Below W3.heap.size W3 wb := (show Below W3.heap.size W3 _ from by repeat (first | assumption | exact Below.refl _ _ | refine Below.drew ?_ | refine Below.alloc ?_ (by first | omega | (simp; done) | (simp; omega)) _)).trans hbb; have hKB : W3.heap.size ≤ wb.heap.size := KB.size)
                    | (refine step_app rfl (.tmp 43) (.tmp 46) 28 65 rfl Try.underlying28 Consumer.infoE rfl (by omega) (by omega) Consumer.enc_len Consumer.enc_one W3.heap.size _ cb ([] ++ O.take 0 ++ [x]) (([] : List Consumer)) (some ad) 0 0 (0 + 1) (0 + 1 + 0) (by rw [List.length_append, List.nil_append, hkt]; rfl) (by omega) rfl (by simp [Act.eval, Act.put]) rfl (fun ad had j u hu => by simp at hu) (fun h => by cases h) (by first | exact hob | exact World.ownsRow.alloc hob _) (by first | omega | (simp; done) | (simp; omega)) (by omega) ?_; intro Ac cc wc hoc hbc hgc; have KC : Below W3.heap.size W3 wc := (show Below W3.heap.size W3 _ from by repeat (first | assumption | exact Below.refl _ _ | refine Below.drew ?_ | refine Below.alloc ?_ (by first | omega | (simp; done) | (simp; omega)) _)).trans hbc))
                all_goals
                  rw [HKE.out] at hoc
                  go_wp2_with fail
                  rw [← HP.out] at hoc
                  obtain ⟨q2, hq2⟩ := own_some hoc (by rw [ordL_len, List.length_take]; omega)
                  subst hq2
                  have hz : 0 + 1 + 0 = 0 + 1 := by omega
                  rw [hz] at hoc
                  go_roundw
                  case rel => exact ⟨0 + 1, q2, cc, by omega, by go_num, by first | rfl | exact sl_eq (by omega), Own.mono_ hoc (by have := hbel.size; have := B3.size; omega), below_step (below_step hbel B3 (Nat.le_refl _)) KC (Nat.le_refl _)⟩
                  case measure => simp [intOf] <;> omega
              · have hck3 : ¬ 0 = cap := fun h => hck h.symm
                have hkt : (O.take 0).length = 0 := by rw [List.length_take]; omega
                have hdk : O.drop 0 = [] := by rw [List.drop_eq_nil_iff]; omega
                have hke : ([] ++ O.take 0 ++ [x]) ++ ([] : List Consumer) = insL O 0 x := by unfold insL; rw [hdk]; simp
                clear hdk
                have HKE := hide hke; clear hke
                go_wp2_with fail
                have K0 : Below W3.heap.size W3 W3 := Below.refl _ _
                have HF := hide (fun (X : World) (hX : Below W3.heap.size W3 X) => show X.cell? ⟨bl, ol, none⟩ = some (.string x.name) ∧ X.cell? ⟨bl, ol + 1, none⟩ = some (.int .i64 x.watts) ∧ X.cell? ⟨bl, ol + 2, none⟩ = some (.int .i64 x.rank) from ⟨(hX.cell hS).trans s0, (hX.cell hS).trans s1, (hX.cell hS).trans s2⟩)
                go_region_held_law (fun w' => w'.cell? ⟨bl, ol, none⟩ = some (.string x.name) ∧ w'.cell? ⟨bl, ol + 1, none⟩ = some (.int .i64 x.watts) ∧ w'.cell? ⟨bl, ol + 2, none⟩ = some (.int .i64 x.rank)) (exact HF.out _ (by repeat (first | assumption | exact Below.refl _ _ | refine Below.drew ?_ | refine Below.alloc ?_ (by first | omega | (simp; done) | (simp; omega)) _)))
                  (first
                    | (refine step_app rfl (.tmp 33) (.tmp 36) 28 65 rfl Try.underlying28 Consumer.infoE rfl (by omega) (by omega) Consumer.enc_len Consumer.enc_one W3.heap.size _ 0 [] (O.take 0) (some ad) 0 cap 0 0 rfl (by omega) rfl (by simp [Act.eval, Act.put]) hkt (fun ad had j u hu => by simp at hu) (fun h => by cases h) (by first | exact own_none (by first | rfl | simp) (by first | omega | simp) | exact World.ownsRow.alloc (own_none (by first | rfl | simp) (by first | omega | simp)) _) (by first | omega | (simp; done) | (simp; omega)) (by omega) ?_; intro Aa ca wa hoa hba hga; have KA : Below W3.heap.size W3 wa := (show Below W3.heap.size W3 _ from by repeat (first | assumption | exact Below.refl _ _ | refine Below.drew ?_ | refine Below.alloc ?_ (by first | omega | (simp; done) | (simp; omega)) _)).trans hba; have hKA : W3.heap.size ≤ wa.heap.size := KA.size)
                    | (refine step_app rfl (.tmp 37) (.tmp 42) 28 65 rfl Try.underlying28 Consumer.infoE rfl (by omega) (by omega) Consumer.enc_len Consumer.enc_one W3.heap.size _ ca ([] ++ O.take 0) [x] (some ⟨_, 0, none⟩) 1 1 (0) (0 + 1) (by rw [List.nil_append]; exact hkt) rfl rfl (by simp [Act.eval, Act.put] <;> rfl) rfl (fun ad had j u hu => by cases had; first | exact box_of _ wa x _ rfl _ _ (by first | rfl | simp) j u hu | exact (hga.cell_far _ (by first | (simp [Addr.add_mid]; done) | (simp [Addr.add_mid]; omega)) (by first | (simp [Addr.add_mid, Value.ownBlock]; done) | (simp [Addr.add_mid, Value.ownBlock]; omega))).trans (box_of _ (W3.alloc (.cells #[] 65)) x _ rfl _ _ (by first | rfl | simp) j u hu) | exact (hga.cell_far _ (by first | (simp [Addr.add_mid]; done) | (simp [Addr.add_mid]; omega)) (by first | (simp [Addr.add_mid, Value.ownBlock]; done) | (simp [Addr.add_mid, Value.ownBlock]; omega))).trans ((World.cell?_alloc_lt _ _ _ (by simp [Addr.add_mid])).trans (box_of _ W3 x _ rfl _ _ (by first | rfl | simp) j u hu))) (fun h => by cases h) (by first | exact hoa | exact World.ownsRow.alloc hoa _) (by first | omega | (simp; done) | (simp; omega)) (by omega) ?_; intro Ab cb wb hob hbb hgb; have KB : Below W3.heap.size W3 wb := (show Below W3.heap.size W3 _ from by repeat (first | assumption | exact Below.refl _ _ | refine Below.drew ?_ | refine Below.alloc ?_ (by first | omega | (simp; done) | (simp; omega)) _)).trans hbb; have hKB : W3.heap.size ≤ wb.heap.size := KB.size)
                    | (refine step_app rfl (.tmp 43) (.tmp 46) 28 65 rfl Try.underlying28 Consumer.infoE rfl (by omega) (by omega) Consumer.enc_len Consumer.enc_one W3.heap.size _ cb ([] ++ O.take 0 ++ [x]) (([] : List Consumer)) (some ad) 0 cap (0 + 1) (0 + 1 + 0) (by rw [List.length_append, List.nil_append, hkt]; rfl) (by omega) rfl (by simp [Act.eval, Act.put]) rfl (fun ad had j u hu => by simp at hu) (fun h => by cases h) (by first | exact hob | exact World.ownsRow.alloc hob _) (by first | omega | (simp; done) | (simp; omega)) (by omega) ?_; intro Ac cc wc hoc hbc hgc; have KC : Below W3.heap.size W3 wc := (show Below W3.heap.size W3 _ from by repeat (first | assumption | exact Below.refl _ _ | refine Below.drew ?_ | refine Below.alloc ?_ (by first | omega | (simp; done) | (simp; omega)) _)).trans hbc))
                all_goals
                  rw [HKE.out] at hoc
                  go_wp2_with fail
                  rw [← HP.out] at hoc
                  obtain ⟨q2, hq2⟩ := own_some hoc (by rw [ordL_len, List.length_take]; omega)
                  subst hq2
                  have hz : 0 + 1 + 0 = 0 + 1 := by omega
                  rw [hz] at hoc
                  go_roundw
                  case rel => exact ⟨0 + 1, q2, cc, by omega, by go_num, by first | rfl | exact sl_eq (by omega), Own.mono_ hoc (by have := hbel.size; have := B3.size; omega), below_step (below_step hbel B3 (Nat.le_refl _)) KC (Nat.le_refl _)⟩
                  case measure => simp [intOf] <;> omega
          · obtain ⟨b0, o0, hA3, _⟩ := Consumer.rd_at hr (by intro h; rw [h] at hMl; simp at hMl; omega)
            subst hA3
            obtain ⟨b', o', hA2, hbw, hct, hcd⟩ := rd_part Consumer.enc_len hr (by intro h; rw [h] at hMl; simp at hMl; omega) 0
            cases hA2
            have hkl : (0 : Int) ≤ (k : Int) := by omega
            have hck : ¬ cap = 0 := by omega
            have hnk : ¬ (k : Int) = 0 := by omega
            simp only [Nat.zero_mul, Nat.add_zero] at hcd
            have hkt : (O.take 0).length = 0 := by rw [List.length_take]; omega
            have hkd : (O.drop 0).length = k := by rw [List.length_drop]; omega
            have hke : ([] ++ O.take 0 ++ [x]) ++ O.drop 0 = insL O 0 x := by simp [insL]
            have HKE := hide hke; clear hke
            go_wp2_with fail
            have K0 : Below W3.heap.size W3 W3 := Below.refl _ _
            have HF := hide (fun (X : World) (hX : Below W3.heap.size W3 X) => show X.cell? ⟨bl, ol + k * 3, none⟩ = some (.string x.name) ∧ X.cell? ⟨bl, ol + k * 3 + 1, none⟩ = some (.int .i64 x.watts) ∧ X.cell? ⟨bl, ol + k * 3 + 2, none⟩ = some (.int .i64 x.rank) from ⟨(hX.cell hS).trans s0, (hX.cell hS).trans s1, (hX.cell hS).trans s2⟩)
            go_region_held_law (fun w' => w'.cell? ⟨bl, ol + k * 3, none⟩ = some (.string x.name) ∧ w'.cell? ⟨bl, ol + k * 3 + 1, none⟩ = some (.int .i64 x.watts) ∧ w'.cell? ⟨bl, ol + k * 3 + 2, none⟩ = some (.int .i64 x.rank)) (exact HF.out _ (by repeat (first | assumption | exact Below.refl _ _ | refine Below.drew ?_ | refine Below.alloc ?_ (by first | omega | (simp; done) | (simp; omega)) _)))
              (first
                | (refine step_app rfl (.tmp 33) (.tmp 36) 28 65 rfl Try.underlying28 Consumer.infoE rfl (by omega) (by omega) Consumer.enc_len Consumer.enc_one W3.heap.size _ 0 [] (O.take 0) (some ⟨b0, o0, none⟩) 0 cap 0 0 rfl (by omega) rfl (by simp [Act.eval, Act.put]) hkt (fun ad had j u hu => by cases had; rw [Addr.add_mid]; exact ((show Below W3.heap.size W3 _ from by repeat (first | assumption | exact Below.refl _ _ | refine Below.drew ?_ | refine Below.alloc ?_ (by first | omega | (simp; done) | (simp; omega)) _)).cell hbw).trans (hct j u hu)) (fun h => by cases h) (by first | exact own_none (by first | rfl | simp) (by first | omega | simp) | exact World.ownsRow.alloc (own_none (by first | rfl | simp) (by first | omega | simp)) _) (by first | omega | (simp; done) | (simp; omega)) (by omega) ?_; intro Aa ca wa hoa hba hga; have KA : Below W3.heap.size W3 wa := (show Below W3.heap.size W3 _ from by repeat (first | assumption | exact Below.refl _ _ | refine Below.drew ?_ | refine Below.alloc ?_ (by first | omega | (simp; done) | (simp; omega)) _)).trans hba; have hKA : W3.heap.size ≤ wa.heap.size := KA.size)
                | (refine step_app rfl (.tmp 37) (.tmp 42) 28 65 rfl Try.underlying28 Consumer.infoE rfl (by omega) (by omega) Consumer.enc_len Consumer.enc_one W3.heap.size _ ca ([] ++ O.take 0) [x] (some ⟨_, 0, none⟩) 1 1 (0) (0 + 1) (by rw [List.nil_append]; exact hkt) rfl rfl (by simp [Act.eval, Act.put] <;> rfl) rfl (fun ad had j u hu => by cases had; first | exact box_of _ wa x _ rfl _ _ (by first | rfl | simp) j u hu | exact (hga.cell_far _ (by first | (simp [Addr.add_mid]; done) | (simp [Addr.add_mid]; omega)) (by first | (simp [Addr.add_mid, Value.ownBlock]; done) | (simp [Addr.add_mid, Value.ownBlock]; omega))).trans (box_of _ (W3.alloc (.cells #[] 65)) x _ rfl _ _ (by first | rfl | simp) j u hu) | exact (hga.cell_far _ (by first | (simp [Addr.add_mid]; done) | (simp [Addr.add_mid]; omega)) (by first | (simp [Addr.add_mid, Value.ownBlock]; done) | (simp [Addr.add_mid, Value.ownBlock]; omega))).trans ((World.cell?_alloc_lt _ _ _ (by simp [Addr.add_mid])).trans (box_of _ W3 x _ rfl _ _ (by first | rfl | simp) j u hu))) (fun h => by cases h) (by first | exact hoa | exact World.ownsRow.alloc hoa _) (by first | omega | (simp; done) | (simp; omega)) (by omega) ?_; intro Ab cb wb hob hbb hgb; have KB : Below W3.heap.size W3 wb := (show Below W3.heap.size W3 _ from by repeat (first | assumption | exact Below.refl _ _ | refine Below.drew ?_ | refine Below.alloc ?_ (by first | omega | (simp; done) | (simp; omega)) _)).trans hbb; have hKB : W3.heap.size ≤ wb.heap.size := KB.size)
                | (refine step_app rfl (.tmp 43) (.tmp 46) 28 65 rfl Try.underlying28 Consumer.infoE rfl (by omega) (by omega) Consumer.enc_len Consumer.enc_one W3.heap.size _ cb ([] ++ O.take 0 ++ [x]) (O.drop 0) (some ⟨b0, o0, none⟩) k cap (0 + 1) (0 + 1 + k) (by rw [List.length_append, List.nil_append, hkt]; rfl) (by omega) rfl (by simp [Act.eval, Act.put]) hkd (fun ad had j u hu => by cases had; rw [Addr.add_mid]; exact ((show Below W3.heap.size W3 _ from by repeat (first | assumption | exact Below.refl _ _ | refine Below.drew ?_ | refine Below.alloc ?_ (by first | omega | (simp; done) | (simp; omega)) _)).cell hbw).trans (hcd j u hu)) (fun h => by cases h) (by first | exact hob | exact World.ownsRow.alloc hob _) (by first | omega | (simp; done) | (simp; omega)) (by omega) ?_; intro Ac cc wc hoc hbc hgc; have KC : Below W3.heap.size W3 wc := (show Below W3.heap.size W3 _ from by repeat (first | assumption | exact Below.refl _ _ | refine Below.drew ?_ | refine Below.alloc ?_ (by first | omega | (simp; done) | (simp; omega)) _)).trans hbc))
            all_goals
              rw [HKE.out] at hoc
              go_wp2_with fail
              rw [← HP.out] at hoc
              obtain ⟨q2, hq2⟩ := own_some hoc (by rw [ordL_len, List.length_take]; omega)
              subst hq2
              have hz : 0 + 1 + k = k + 1 := by omega
              rw [hz] at hoc
              go_roundw
              case rel => exact ⟨k + 1, q2, cc, by omega, by go_num, by first | rfl | exact sl_eq (by omega), Own.mono_ hoc (by have := hbel.size; have := B3.size; omega), below_step (below_step hbel B3 (Nat.le_refl _)) KC (Nat.le_refl _)⟩
              case measure => simp [intOf] <;> omega
        · obtain ⟨m, hm⟩ : ∃ m : Nat, m = p - 1 := ⟨_, rfl⟩
          have hmk : m < k := by omega
          obtain ⟨c, hc⟩ : ∃ c, O[m]? = some c := ⟨_, List.getElem?_eq_getElem (by omega)⟩
          have hoL : Own Consumer.enc 3 65 w.heap.size W1 (.slice (some ⟨q, 0, none⟩) O.length cap) O := by rw [hMl]; exact HO.out
          have y1 := own_cell (Own.below hoL hb2) (flat_get Consumer.enc_len O m c hc 1 _ rfl)
          have y2 := own_cell (Own.below hoL hb2) (flat_get Consumer.enc_len O m c hc 2 _ rfl)
          have HC := hide hc; clear hc hoL
          have hw1 : IntKind.i64.wrap ((p : Int) - 1) = (m : Int) := by rw [IntKind.wrap_i64]; omega
          have hw2 : IntKind.i64.wrap (m : Int) = (m : Int) := by rw [IntKind.wrap_i64]; omega
          have hw4 : wrap64 ((p : Int) - 1) = (m : Int) := by unfold wrap64; omega
          have hpi : (m : Int) < (k : Int) := by omega
          have hpp : decide (0 < p) = true := decide_eq_true (by omega)
          have HM := hide hm; clear hm
          have a0 := after_cell x1; have a1 := after_cell x2; have a2 := after_cell y1; have a3 := after_cell y2
          by_cases hgt : x.rank < c.rank
          · have hd : decide (x.rank < c.rank) = true := decide_eq_true hgt
            have HGT := hide (show gtR c x = true by exact decide_eq_true hgt)
            go_wp2_with fail
            refine wp_region_after (by kernel_rfl) (by kernel_rfl) ?_
            repeat (go_big_quiet_step (fail))
            refine wpQuiet_nil ?_
            rintro W3 ⟨⟨_, hb3⟩, rfl⟩
            clear a0 a1 a2 a3
            have hm := HM.out
            go_wp2_with fail
            go_roundw
            case rel => exact ⟨m, by omega, by go_num, hide (fun j d hj hd2 => by
              rcases Nat.lt_or_eq_of_le hj with h3 | h3
              · exact hhi.out j d (by omega) hd2
              · subst h3; rw [HC.out] at hd2; injection hd2 with hd2; rw [← hd2]; exact HGT.out), below_step hb2 hb3 (Nat.le_refl _)⟩
            case measure => simp [intOf] <;> omega
          · have hd : decide (x.rank < c.rank) = false := decide_eq_false hgt
            have HP := hide (HEND.out (fun d _ hd2 => by rw [← HM.out, HC.out] at hd2; injection hd2 with hd2; rw [← hd2]; exact decide_eq_false hgt))
            go_wp2_with fail
            refine wp_region_after (by kernel_rfl) (by kernel_rfl) ?_
            repeat (go_big_quiet_step (fail))
            refine wpQuiet_nil ?_
            rintro W3 ⟨⟨_, hb3⟩, rfl⟩
            clear a0 a1 a2 a3
            clear hw1 hw2 hw4 hpp HEND hhi y1 y2
            have B3 := below_step hb2 hb3 (Nat.le_refl _)
            have s0 := below_cell hb3 x0; have s1 := below_cell hb3 x1; have s2 := below_cell hb3 x2; clear x0 x1 x2
            have hS : bl < W3.heap.size := World.block_lt_of_cell? _ _ s0
            have hr : Rd Consumer.enc 3 W3.heap.size W3 (some ⟨q, 0, none⟩) O := Own.rd_of Consumer.enc_len (Own.below HO.out B3)
            have hA : (some ⟨q, 0, none⟩ : Option Addr) ≠ none := by simp
            obtain ⟨A, hAq⟩ : ∃ A : Option Addr, A = some ⟨q, 0, none⟩ := ⟨_, rfl⟩
            rw [← hAq] at hr hA ⊢
            clear hAq
            by_cases hpk2 : p < k
            · obtain ⟨b0, o0, hA3, _⟩ := Consumer.rd_at hr (by intro h; rw [h] at hMl; simp at hMl; omega)
              subst hA3
              obtain ⟨b', o', hA2, hbw, hct, hcd⟩ := rd_part Consumer.enc_len hr (by intro h; rw [h] at hMl; simp at hMl; omega) p
              cases hA2
              have hk0 : (0 : Int) ≤ (p : Int) := by omega
              have hkl : (p : Int) ≤ (k : Int) := by omega
              have hkc : p ≤ cap := by omega
              have hck : ¬ cap = p := by omega
              have hkt : (O.take p).length = p := by rw [List.length_take]; omega
              have hkd : (O.drop p).length = (k - p) := by rw [List.length_drop]; omega
              have hke : ([] ++ O.take p ++ [x]) ++ O.drop p = insL O p x := by simp [insL]
              have HKE := hide hke; clear hke
              go_wp2_with fail
              have K0 : Below W3.heap.size W3 W3 := Below.refl _ _
              have HF := hide (fun (X : World) (hX : Below W3.heap.size W3 X) => show X.cell? ⟨bl, ol + k * 3, none⟩ = some (.string x.name) ∧ X.cell? ⟨bl, ol + k * 3 + 1, none⟩ = some (.int .i64 x.watts) ∧ X.cell? ⟨bl, ol + k * 3 + 2, none⟩ = some (.int .i64 x.rank) from ⟨(hX.cell hS).trans s0, (hX.cell hS).trans s1, (hX.cell hS).trans s2⟩)
              go_region_held_law (fun w' => w'.cell? ⟨bl, ol + k * 3, none⟩ = some (.string x.name) ∧ w'.cell? ⟨bl, ol + k * 3 + 1, none⟩ = some (.int .i64 x.watts) ∧ w'.cell? ⟨bl, ol + k * 3 + 2, none⟩ = some (.int .i64 x.rank)) (exact HF.out _ (by repeat (first | assumption | exact Below.refl _ _ | refine Below.drew ?_ | refine Below.alloc ?_ (by first | omega | (simp; done) | (simp; omega)) _)))
                (first
                  | (refine step_app rfl (.tmp 33) (.tmp 36) 28 65 rfl Try.underlying28 Consumer.infoE rfl (by omega) (by omega) Consumer.enc_len Consumer.enc_one W3.heap.size _ 0 [] (O.take p) (some ⟨b0, o0, none⟩) p cap 0 p rfl (by omega) rfl (by simp [Act.eval, Act.put]) hkt (fun ad had j u hu => by cases had; rw [Addr.add_mid]; exact ((show Below W3.heap.size W3 _ from by repeat (first | assumption | exact Below.refl _ _ | refine Below.drew ?_ | refine Below.alloc ?_ (by first | omega | (simp; done) | (simp; omega)) _)).cell hbw).trans (hct j u hu)) (fun h => by cases h) (by first | exact own_none (by first | rfl | simp) (by first | omega | simp) | exact World.ownsRow.alloc (own_none (by first | rfl | simp) (by first | omega | simp)) _) (by first | omega | (simp; done) | (simp; omega)) (by omega) ?_; intro Aa ca wa hoa hba hga; have KA : Below W3.heap.size W3 wa := (show Below W3.heap.size W3 _ from by repeat (first | assumption | exact Below.refl _ _ | refine Below.drew ?_ | refine Below.alloc ?_ (by first | omega | (simp; done) | (simp; omega)) _)).trans hba; have hKA : W3.heap.size ≤ wa.heap.size := KA.size)
                  | (refine step_app rfl (.tmp 37) (.tmp 42) 28 65 rfl Try.underlying28 Consumer.infoE rfl (by omega) (by omega) Consumer.enc_len Consumer.enc_one W3.heap.size _ ca ([] ++ O.take p) [x] (some ⟨_, 0, none⟩) 1 1 (p) (p + 1) (by rw [List.nil_append]; exact hkt) rfl rfl (by simp [Act.eval, Act.put] <;> rfl) rfl (fun ad had j u hu => by cases had; first | exact box_of _ wa x _ rfl _ _ (by first | rfl | simp) j u hu | exact (hga.cell_far _ (by first | (simp [Addr.add_mid]; done) | (simp [Addr.add_mid]; omega)) (by first | (simp [Addr.add_mid, Value.ownBlock]; done) | (simp [Addr.add_mid, Value.ownBlock]; omega))).trans (box_of _ (W3.alloc (.cells #[] 65)) x _ rfl _ _ (by first | rfl | simp) j u hu) | exact (hga.cell_far _ (by first | (simp [Addr.add_mid]; done) | (simp [Addr.add_mid]; omega)) (by first | (simp [Addr.add_mid, Value.ownBlock]; done) | (simp [Addr.add_mid, Value.ownBlock]; omega))).trans ((World.cell?_alloc_lt _ _ _ (by simp [Addr.add_mid])).trans (box_of _ W3 x _ rfl _ _ (by first | rfl | simp) j u hu))) (fun h => by cases h) (by first | exact hoa | exact World.ownsRow.alloc hoa _) (by first | omega | (simp; done) | (simp; omega)) (by omega) ?_; intro Ab cb wb hob hbb hgb; have KB : Below W3.heap.size W3 wb := (show Below W3.heap.size W3 _ from by repeat (first | assumption | exact Below.refl _ _ | refine Below.drew ?_ | refine Below.alloc ?_ (by first | omega | (simp; done) | (simp; omega)) _)).trans hbb; have hKB : W3.heap.size ≤ wb.heap.size := KB.size)
                  | (refine step_app rfl (.tmp 43) (.tmp 46) 28 65 rfl Try.underlying28 Consumer.infoE rfl (by omega) (by omega) Consumer.enc_len Consumer.enc_one W3.heap.size _ cb ([] ++ O.take p ++ [x]) (O.drop p) (some ⟨b0, o0 + p * 3, none⟩) (k - p) (cap - p) (p + 1) (p + 1 + (k - p)) (by rw [List.length_append, List.nil_append, hkt]; rfl) (by omega) rfl (by simp [Act.eval, Act.put]) hkd (fun ad had j u hu => by cases had; rw [Addr.add_mid]; exact ((show Below W3.heap.size W3 _ from by repeat (first | assumption | exact Below.refl _ _ | refine Below.drew ?_ | refine Below.alloc ?_ (by first | omega | (simp; done) | (simp; omega)) _)).cell hbw).trans (hcd j u hu)) (fun h => by cases h) (by first | exact hob | exact World.ownsRow.alloc hob _) (by first | omega | (simp; done) | (simp; omega)) (by omega) ?_; intro Ac cc wc hoc hbc hgc; have KC : Below W3.heap.size W3 wc := (show Below W3.heap.size W3 _ from by repeat (first | assumption | exact Below.refl _ _ | refine Below.drew ?_ | refine Below.alloc ?_ (by first | omega | (simp; done) | (simp; omega)) _)).trans hbc))
              all_goals
                rw [HKE.out] at hoc
                go_wp2_with fail
                rw [← HP.out] at hoc
                obtain ⟨q2, hq2⟩ := own_some hoc (by rw [ordL_len, List.length_take]; omega)
                subst hq2
                have hz : p + 1 + (k - p) = k + 1 := by omega
                rw [hz] at hoc
                go_roundw
                case rel => exact ⟨k + 1, q2, cc, by omega, by go_num, by first | rfl | exact sl_eq (by omega), Own.mono_ hoc (by have := hbel.size; have := B3.size; omega), below_step (below_step hbel B3 (Nat.le_refl _)) KC (Nat.le_refl _)⟩
                case measure => simp [intOf] <;> omega
            · obtain rfl : k = p := by omega
              have hn0 : ¬ k = 0 := hp0
              rcases A with _ | ad
              · exact absurd rfl hA
              · have hn0' := hn0
                have hk0 : (0 : Int) ≤ (k : Int) := by omega
                obtain ⟨b, o, hA2, hbw, hct, _⟩ := rd_part Consumer.enc_len hr (by intro h; rw [h] at hMl; simp at hMl; omega) k
                cases hA2
                by_cases hck : cap = k
                · have hck2 := hck.symm; clear hck
                  subst hck2
                  have hkt : (O.take k).length = k := by rw [List.length_take]; omega
                  have hdk : O.drop k = [] := by rw [List.drop_eq_nil_iff]; omega
                  have hke : ([] ++ O.take k ++ [x]) ++ ([] : List Consumer) = insL O k x := by unfold insL; rw [hdk]; simp
                  clear hdk
                  have HKE := hide hke; clear hke
                  go_wp2_with fail
                  have K0 : Below W3.heap.size W3 W3 := Below.refl _ _
                  have HF := hide (fun (X : World) (hX : Below W3.heap.size W3 X) => show X.cell? ⟨bl, ol + k * 3, none⟩ = some (.string x.name) ∧ X.cell? ⟨bl, ol + k * 3 + 1, none⟩ = some (.int .i64 x.watts) ∧ X.cell? ⟨bl, ol + k * 3 + 2, none⟩ = some (.int .i64 x.rank) from ⟨(hX.cell hS).trans s0, (hX.cell hS).trans s1, (hX.cell hS).trans s2⟩)
                  go_region_held_law (fun w' => w'.cell? ⟨bl, ol + k * 3, none⟩ = some (.string x.name) ∧ w'.cell? ⟨bl, ol + k * 3 + 1, none⟩ = some (.int .i64 x.watts) ∧ w'.cell? ⟨bl, ol + k * 3 + 2, none⟩ = some (.int .i64 x.rank)) (exact HF.out _ (by repeat (first | assumption | exact Below.refl _ _ | refine Below.drew ?_ | refine Below.alloc ?_ (by first | omega | (simp; done) | (simp; omega)) _)))
                    (first
                      | (refine step_app rfl (.tmp 33) (.tmp 36) 28 65 rfl Try.underlying28 Consumer.infoE rfl (by omega) (by omega) Consumer.enc_len Consumer.enc_one W3.heap.size _ 0 [] (O.take k) (some ⟨b, o, none⟩) k k 0 k rfl (by omega) rfl (by simp [Act.eval, Act.put]) hkt (fun ad had j u hu => by cases had; rw [Addr.add_mid]; exact ((show Below W3.heap.size W3 _ from by repeat (first | assumption | exact Below.refl _ _ | refine Below.drew ?_ | refine Below.alloc ?_ (by first | omega | (simp; done) | (simp; omega)) _)).cell hbw).trans (hct j u hu)) (fun h => by cases h) (by first | exact own_none (by first | rfl | simp) (by first | omega | simp) | exact World.ownsRow.alloc (own_none (by first | rfl | simp) (by first | omega | simp)) _) (by first | omega | (simp; done) | (simp; omega)) (by omega) ?_; intro Aa ca wa hoa hba hga; have KA : Below W3.heap.size W3 wa := (show Below W3.heap.size W3 _ from by repeat (first | assumption | exact Below.refl _ _ | refine Below.drew ?_ | refine Below.alloc ?_ (by first | omega | (simp; done) | (simp; omega)) _)).trans hba; have hKA : W3.heap.size ≤ wa.heap.size := KA.size)
                      | (refine step_app rfl (.tmp 37) (.tmp 42) 28 65 rfl Try.underlying28 Consumer.infoE rfl (by omega) (by omega) Consumer.enc_len Consumer.enc_one W3.heap.size _ ca ([] ++ O.take k) [x] (some ⟨_, 0, none⟩) 1 1 (k) (k + 1) (by rw [List.nil_append]; exact hkt) rfl rfl (by simp [Act.eval, Act.put] <;> rfl) rfl (fun ad had j u hu => by cases had; first | exact box_of _ wa x _ rfl _ _ (by first | rfl | simp) j u hu | exact (hga.cell_far _ (by first | (simp [Addr.add_mid]; done) | (simp [Addr.add_mid]; omega)) (by first | (simp [Addr.add_mid, Value.ownBlock]; done) | (simp [Addr.add_mid, Value.ownBlock]; omega))).trans (box_of _ (W3.alloc (.cells #[] 65)) x _ rfl _ _ (by first | rfl | simp) j u hu) | exact (hga.cell_far _ (by first | (simp [Addr.add_mid]; done) | (simp [Addr.add_mid]; omega)) (by first | (simp [Addr.add_mid, Value.ownBlock]; done) | (simp [Addr.add_mid, Value.ownBlock]; omega))).trans ((World.cell?_alloc_lt _ _ _ (by simp [Addr.add_mid])).trans (box_of _ W3 x _ rfl _ _ (by first | rfl | simp) j u hu))) (fun h => by cases h) (by first | exact hoa | exact World.ownsRow.alloc hoa _) (by first | omega | (simp; done) | (simp; omega)) (by omega) ?_; intro Ab cb wb hob hbb hgb; have KB : Below W3.heap.size W3 wb := (show Below W3.heap.size W3 _ from by repeat (first | assumption | exact Below.refl _ _ | refine Below.drew ?_ | refine Below.alloc ?_ (by first | omega | (simp; done) | (simp; omega)) _)).trans hbb; have hKB : W3.heap.size ≤ wb.heap.size := KB.size)
                      | (refine step_app rfl (.tmp 43) (.tmp 46) 28 65 rfl Try.underlying28 Consumer.infoE rfl (by omega) (by omega) Consumer.enc_len Consumer.enc_one W3.heap.size _ cb ([] ++ O.take k ++ [x]) (([] : List Consumer)) (some ⟨b, o, none⟩) 0 0 (k + 1) (k + 1 + 0) (by rw [List.length_append, List.nil_append, hkt]; rfl) (by omega) rfl (by simp [Act.eval, Act.put]) rfl (fun ad had j u hu => by simp at hu) (fun h => by cases h) (by first | exact hob | exact World.ownsRow.alloc hob _) (by first | omega | (simp; done) | (simp; omega)) (by omega) ?_; intro Ac cc wc hoc hbc hgc; have KC : Below W3.heap.size W3 wc := (show Below W3.heap.size W3 _ from by repeat (first | assumption | exact Below.refl _ _ | refine Below.drew ?_ | refine Below.alloc ?_ (by first | omega | (simp; done) | (simp; omega)) _)).trans hbc))
                  all_goals
                    rw [HKE.out] at hoc
                    go_wp2_with fail
                    rw [← HP.out] at hoc
                    obtain ⟨q2, hq2⟩ := own_some hoc (by rw [ordL_len, List.length_take]; omega)
                    subst hq2
                    have hz : k + 1 + 0 = k + 1 := by omega
                    rw [hz] at hoc
                    go_roundw
                    case rel => exact ⟨k + 1, q2, cc, by omega, by go_num, by first | rfl | exact sl_eq (by omega), Own.mono_ hoc (by have := hbel.size; have := B3.size; omega), below_step (below_step hbel B3 (Nat.le_refl _)) KC (Nat.le_refl _)⟩
                    case measure => simp [intOf] <;> omega
                · have hck3 : ¬ k = cap := fun h => hck h.symm
                  have hkc : k ≤ cap := by omega
                  have hkt : (O.take k).length = k := by rw [List.length_take]; omega
                  have hdk : O.drop k = [] := by rw [List.drop_eq_nil_iff]; omega
                  have hke : ([] ++ O.take k ++ [x]) ++ ([] : List Consumer) = insL O k x := by unfold insL; rw [hdk]; simp
                  clear hdk
                  have HKE := hide hke; clear hke
                  go_wp2_with fail
                  have K0 : Below W3.heap.size W3 W3 := Below.refl _ _
                  have HF := hide (fun (X : World) (hX : Below W3.heap.size W3 X) => show X.cell? ⟨bl, ol + k * 3, none⟩ = some (.string x.name) ∧ X.cell? ⟨bl, ol + k * 3 + 1, none⟩ = some (.int .i64 x.watts) ∧ X.cell? ⟨bl, ol + k * 3 + 2, none⟩ = some (.int .i64 x.rank) from ⟨(hX.cell hS).trans s0, (hX.cell hS).trans s1, (hX.cell hS).trans s2⟩)
                  go_region_held_law (fun w' => w'.cell? ⟨bl, ol + k * 3, none⟩ = some (.string x.name) ∧ w'.cell? ⟨bl, ol + k * 3 + 1, none⟩ = some (.int .i64 x.watts) ∧ w'.cell? ⟨bl, ol + k * 3 + 2, none⟩ = some (.int .i64 x.rank)) (exact HF.out _ (by repeat (first | assumption | exact Below.refl _ _ | refine Below.drew ?_ | refine Below.alloc ?_ (by first | omega | (simp; done) | (simp; omega)) _)))
                    (first
                      | (refine step_app rfl (.tmp 33) (.tmp 36) 28 65 rfl Try.underlying28 Consumer.infoE rfl (by omega) (by omega) Consumer.enc_len Consumer.enc_one W3.heap.size _ 0 [] (O.take k) (some ⟨b, o, none⟩) k cap 0 k rfl (by omega) rfl (by simp [Act.eval, Act.put]) hkt (fun ad had j u hu => by cases had; rw [Addr.add_mid]; exact ((show Below W3.heap.size W3 _ from by repeat (first | assumption | exact Below.refl _ _ | refine Below.drew ?_ | refine Below.alloc ?_ (by first | omega | (simp; done) | (simp; omega)) _)).cell hbw).trans (hct j u hu)) (fun h => by cases h) (by first | exact own_none (by first | rfl | simp) (by first | omega | simp) | exact World.ownsRow.alloc (own_none (by first | rfl | simp) (by first | omega | simp)) _) (by first | omega | (simp; done) | (simp; omega)) (by omega) ?_; intro Aa ca wa hoa hba hga; have KA : Below W3.heap.size W3 wa := (show Below W3.heap.size W3 _ from by repeat (first | assumption | exact Below.refl _ _ | refine Below.drew ?_ | refine Below.alloc ?_ (by first | omega | (simp; done) | (simp; omega)) _)).trans hba; have hKA : W3.heap.size ≤ wa.heap.size := KA.size)
                      | (refine step_app rfl (.tmp 37) (.tmp 42) 28 65 rfl Try.underlying28 Consumer.infoE rfl (by omega) (by omega) Consumer.enc_len Consumer.enc_one W3.heap.size _ ca ([] ++ O.take k) [x] (some ⟨_, 0, none⟩) 1 1 (k) (k + 1) (by rw [List.nil_append]; exact hkt) rfl rfl (by simp [Act.eval, Act.put] <;> rfl) rfl (fun ad had j u hu => by cases had; first | exact box_of _ wa x _ rfl _ _ (by first | rfl | simp) j u hu | exact (hga.cell_far _ (by first | (simp [Addr.add_mid]; done) | (simp [Addr.add_mid]; omega)) (by first | (simp [Addr.add_mid, Value.ownBlock]; done) | (simp [Addr.add_mid, Value.ownBlock]; omega))).trans (box_of _ (W3.alloc (.cells #[] 65)) x _ rfl _ _ (by first | rfl | simp) j u hu) | exact (hga.cell_far _ (by first | (simp [Addr.add_mid]; done) | (simp [Addr.add_mid]; omega)) (by first | (simp [Addr.add_mid, Value.ownBlock]; done) | (simp [Addr.add_mid, Value.ownBlock]; omega))).trans ((World.cell?_alloc_lt _ _ _ (by simp [Addr.add_mid])).trans (box_of _ W3 x _ rfl _ _ (by first | rfl | simp) j u hu))) (fun h => by cases h) (by first | exact hoa | exact World.ownsRow.alloc hoa _) (by first | omega | (simp; done) | (simp; omega)) (by omega) ?_; intro Ab cb wb hob hbb hgb; have KB : Below W3.heap.size W3 wb := (show Below W3.heap.size W3 _ from by repeat (first | assumption | exact Below.refl _ _ | refine Below.drew ?_ | refine Below.alloc ?_ (by first | omega | (simp; done) | (simp; omega)) _)).trans hbb; have hKB : W3.heap.size ≤ wb.heap.size := KB.size)
                      | (refine step_app rfl (.tmp 43) (.tmp 46) 28 65 rfl Try.underlying28 Consumer.infoE rfl (by omega) (by omega) Consumer.enc_len Consumer.enc_one W3.heap.size _ cb ([] ++ O.take k ++ [x]) (([] : List Consumer)) (some ⟨b, o + k * 3, none⟩) 0 (cap - k) (k + 1) (k + 1 + 0) (by rw [List.length_append, List.nil_append, hkt]; rfl) (by omega) rfl (by simp [Act.eval, Act.put]) rfl (fun ad had j u hu => by simp at hu) (fun h => by cases h) (by first | exact hob | exact World.ownsRow.alloc hob _) (by first | omega | (simp; done) | (simp; omega)) (by omega) ?_; intro Ac cc wc hoc hbc hgc; have KC : Below W3.heap.size W3 wc := (show Below W3.heap.size W3 _ from by repeat (first | assumption | exact Below.refl _ _ | refine Below.drew ?_ | refine Below.alloc ?_ (by first | omega | (simp; done) | (simp; omega)) _)).trans hbc))
                  all_goals
                    rw [HKE.out] at hoc
                    go_wp2_with fail
                    rw [← HP.out] at hoc
                    obtain ⟨q2, hq2⟩ := own_some hoc (by rw [ordL_len, List.length_take]; omega)
                    subst hq2
                    have hz : k + 1 + 0 = k + 1 := by omega
                    rw [hz] at hoc
                    go_roundw
                    case rel => exact ⟨k + 1, q2, cc, by omega, by go_num, by first | rfl | exact sl_eq (by omega), Own.mono_ hoc (by have := hbel.size; have := B3.size; omega), below_step (below_step hbel B3 (Nat.le_refl _)) KC (Nat.le_refl _)⟩
                    case measure => simp [intOf] <;> omega
    · obtain rfl : k = L.length := by omega
      rw [List.take_length] at ho
      go_wp2_with fail
      go_ret
      exact ⟨q, cap, rfl, ho, hbel⟩
end Go.Proofs.Ytafefnpmgpmjpaa
