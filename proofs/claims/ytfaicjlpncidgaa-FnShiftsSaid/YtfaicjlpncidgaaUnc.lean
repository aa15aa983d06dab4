/- The parts of the week that are not covered: the program's function and the reference's. -/
import Derived.Test.YtfaicjlpncidgaaTabP
import Derived.Test.YtfaicjlpncidgaaFill
namespace Go.Proofs.Ytfaicjlpncidgaa
open Go Go.RowKit
set_option linter.unusedVariables false
def covP (plan : List Shift) (d p : Int) : Bool := hasD plan d p 1 && hasD plan d p 2
def uncTo (plan : List Shift) : Nat → List (List Int)
  | 0 => []
  | m + 1 => if covP plan ((m / 3 : Nat) : Int) ((m % 3 : Nat) : Int) then uncTo plan m else uncTo plan m ++ [[((m / 3 : Nat) : Int), ((m % 3 : Nat) : Int)]]
theorem unc_at (d p : Nat) (hp : p < 3) : (3 * d + p) / 3 = d ∧ (3 * d + p) % 3 = p := by omega
theorem unc_yes {plan : List Shift} {d p : Nat} (hp : p < 3) (h : covP plan d p = true) : uncTo plan (3 * d + (p + 1)) = uncTo plan (3 * d + p) := by
  obtain ⟨e1, e2⟩ := unc_at d p hp
  show uncTo plan ((3 * d + p) + 1) = _
  rw [uncTo, e1, e2, if_pos h]
theorem unc_no {plan : List Shift} {d p : Nat} (hp : p < 3) (h : covP plan d p = false) : uncTo plan (3 * d + (p + 1)) = uncTo plan (3 * d + p) ++ [[(d : Int), (p : Int)]] := by
  obtain ⟨e1, e2⟩ := unc_at d p hp
  show uncTo plan ((3 * d + p) + 1) = _
  rw [uncTo, e1, e2, if_neg (by rw [h]; decide)]
theorem unc_len (plan : List Shift) : ∀ m, (uncTo plan m).length ≤ m ∧ totV (uncTo plan m) ≤ 2 * m ∧ ∀ x ∈ uncTo plan m, x.length ≤ 2
  | 0 => ⟨Nat.le_refl _, Nat.le_refl _, fun x hx => by cases hx⟩
  | m + 1 => by
    obtain ⟨h1, h2, h3⟩ := unc_len plan m
    unfold uncTo
    split
    · exact ⟨by omega, by omega, h3⟩
    · refine ⟨by simp; omega, by rw [totV_append]; simp [totV]; omega, fun x hx => ?_⟩
      rcases List.mem_append.1 hx with h | h
      · exact h3 x h
      · simp at h; subst h; simp
def uncV (staff : List Worker) (plan : List Shift) : List (List Int) := if planB staff plan then uncTo plan 21 else []
theorem uncV_len (staff : List Worker) (plan : List Shift) : (uncV staff plan).length ≤ 21 ∧ totV (uncV staff plan) ≤ 42 ∧ ∀ x ∈ uncV staff plan, x.length ≤ 1000000 := by
  unfold uncV
  split
  · obtain ⟨h1, h2, h3⟩ := unc_len plan 21
    exact ⟨h1, h2, fun x hx => Nat.le_trans (h3 x hx) (by omega)⟩
  · exact ⟨by simp, by simp [totV], fun x hx => by cases hx⟩
theorem tab_eq {lo hi cap : Nat} {w : World} {A : Option Addr} {V U : List (List Int)} (h : Tab lo hi w A cap V) (e : V = U) : Tab lo hi w A cap U := e ▸ h
set_option maxRecDepth 100000 in
set_option maxHeartbeats 4000000 in
theorem UncoveredParts_spec (staff : List Worker) (plan : List Shift) (A0 A1 : Option Addr) (c0 c1 : Nat) (w : World) (r0 : Rd Worker.enc 4 w.heap.size w A0 staff) (r1 : Rd Shift.enc 4 w.heap.size w A1 plan) (ok0 : ∀ c ∈ staff, c.Ok) (l0 : staff.length ≤ maxLen) (l1 : plan.length ≤ maxLen) :
    Calls Try.prog 43 #[.slice A0 staff.length c0, .slice A1 plan.length c1] w (GivesT (uncV staff plan) (fun v => .tuple #[v, .bool (planB staff plan)]) w) := by
  have hba : Below w.heap.size w (w.alloc (.cells #[] 29)) := (Below.refl _ _).alloc (Nat.le_refl _) _
  have hta := tab_empty (lo := w.heap.size) (w := w) (Nat.le_refl _)
  cases hp : planB staff plan
  · have HP := hide hp
    have HV := hide (show uncV staff plan = [] by simp [uncV, hp])
    clear hp
    go_enter Try.func43, Try.ntmps43
    go_wp2_with (first | (go_at_call 68; refine (l22Plan_is HP.out _ _ _ _ _ (r0.later hba) (r1.later hba) ok0 l0 l1).mono ?_; rintro e w1 ⟨rfl, hb1⟩))
    go_ret2
    rw [HV.out]
    have ht2 := (hta.below hb1).mono (Nat.le_refl _) hb1.size
    exact ⟨_, _, rfl, ht2, below_step hba hb1 (Nat.le_refl _)⟩
  · have HP := hide hp
    have HV := hide (show uncV staff plan = uncTo plan 21 by simp [uncV, hp])
    have hlen := planB_len hp
    clear hp
    go_enter Try.func43, Try.ntmps43
    go_wp2_with (first | (go_at_call 68; refine (l22Plan_is HP.out _ _ _ _ _ (r0.later hba) (r1.later hba) ok0 l0 l1).mono ?_; rintro e w1 ⟨rfl, hb1⟩))
    have BB := below_step hba hb1 (Nat.le_refl _)
    have ht := (hta.below hb1).mono (Nat.le_refl _) hb1.size
    go_loopw [7, 6] (fun i m wr => ∃ (d : Nat) (A : Option Addr) (cap : Nat), d ≤ 7 ∧ i = .int .i64 d ∧ m = .slice A (uncTo plan (3 * d)).length cap ∧ Hid (Tab w.heap.size wr.heap.size wr A cap (uncTo plan (3 * d))) ∧ Below w.heap.size w wr) (fun i _ _ => 7 - (intOf i).toNat)
    case atStart => exact ⟨0, _, _, Nat.zero_le _, rfl, rfl, hide ht, BB⟩
    case round =>
      clear ht BB hta
      obtain ⟨d, A, cap, hd, rfl, rfl, HT, hbel⟩ := hrel
      by_cases hlt : d < 7
      · have hdi : (d : Int) < 7 := by omega
        go_wp2_with fail
        go_loopw [8, 6] (fun i m wr => ∃ (p : Nat) (A : Option Addr) (cap : Nat), p ≤ 3 ∧ i = .int .i64 p ∧ m = .slice A (uncTo plan (3 * d + p)).length cap ∧ Hid (Tab w.heap.size wr.heap.size wr A cap (uncTo plan (3 * d + p))) ∧ Below w.heap.size w wr) (fun i _ _ => 3 - (intOf i).toNat)
        case atStart => exact ⟨0, A, cap, Nat.zero_le _, rfl, rfl, HT, hbel⟩
        case round =>
          clear HT hbel
          obtain ⟨p, A, cap, hp3, rfl, rfl, HT, hbel⟩ := hrel
          by_cases hlp : p < 3
          · have hpi : (p : Int) < 3 := by omega
            have R1 := r1.later hbel
            have HY := hide (fun h => unc_yes (plan := plan) (d := d) hlp h)
            have HN := hide (fun h => unc_no (plan := plan) (d := d) hlp h)
            cases h1 : hasD plan d p 1
            · as_aux_lemma =>
              have HC := hide (HN.out (by simp [covP, h1]))
              obtain ⟨R, eR, ho, hr, ha, hh⟩ := HT.out
              have hul := (unc_len plan (3 * d + p)).1
              have hRl : R.length ≤ 21 := by rw [← eR, List.length_map] at hul; omega
              rw [← eR, List.length_map]
              have HER := hide eR; have HHA := hide (fun g hg => (ha g hg).2); clear eR ha hh hul
              go_wp2_with (first | (go_at_call 89; refine (l22Has_is (by assumption) _ _ _ R1 (by unfold maxLen; omega)).mono ?_; rintro e w3 ⟨rfl, rfl⟩) | (at_builtin; have ho' := World.ownsRow.alloc ho (.cells #[.int .i64 d, .int .i64 p] 3); refine wpList_push2 _ rfl (.tmp 35) (.tmp 39) 57 29 rfl Try.underlying57 rowInfo rfl (by omega) (by omega) Row.enc_len Row.enc_one w.heap.size _ _ R ⟨[(d : Int), (p : Int)], some ⟨_, 0, none⟩, 2⟩ _ rfl rfl _ rfl (by first | rfl | simp) ho' (by have := hbel.size; simp; omega) (by omega) ?_; intro q5 cap5 w5 ho5 hb5 hg5 hq5))
              have ht5 := tab_push hbel.size ho hr HHA.out ho5 hg5 hq5
              rw [HER.out, ← HC.out] at ht5
              have hl5 : R.length + 1 = (uncTo plan (3 * d + (p + 1))).length := by rw [HC.out, ← HER.out]; simp
              have HT5 := hide ht5; clear ht5
              have hb6 := (hbel.alloc hbel.size (.cells #[.int .i64 d, .int .i64 p] 3)).trans hb5
              go_roundw
              case rel => exact ⟨p + 1, _, _, by omega, by go_num, sl_eq hl5, HT5, hb6⟩
              case measure => simp [intOf] <;> omega
            · cases h2 : hasD plan d p 2
              · as_aux_lemma =>
                have HC := hide (HN.out (by simp [covP, h1, h2]))
                obtain ⟨R, eR, ho, hr, ha, hh⟩ := HT.out
                have hul := (unc_len plan (3 * d + p)).1
                have hRl : R.length ≤ 21 := by rw [← eR, List.length_map] at hul; omega
                rw [← eR, List.length_map]
                have HER := hide eR; have HHA := hide (fun g hg => (ha g hg).2); clear eR ha hh hul
                go_wp2_with (first | (go_at_call 89; refine (l22Has_is (by assumption) _ _ _ R1 (by unfold maxLen; omega)).mono ?_; rintro e w3 ⟨rfl, rfl⟩) | (at_builtin; have ho' := World.ownsRow.alloc ho (.cells #[.int .i64 d, .int .i64 p] 3); refine wpList_push2 _ rfl (.tmp 35) (.tmp 39) 57 29 rfl Try.underlying57 rowInfo rfl (by omega) (by omega) Row.enc_len Row.enc_one w.heap.size _ _ R ⟨[(d : Int), (p : Int)], some ⟨_, 0, none⟩, 2⟩ _ rfl rfl _ rfl (by first | rfl | simp) ho' (by have := hbel.size; simp; omega) (by omega) ?_; intro q5 cap5 w5 ho5 hb5 hg5 hq5))
                have ht5 := tab_push hbel.size ho hr HHA.out ho5 hg5 hq5
                rw [HER.out, ← HC.out] at ht5
                have hl5 : R.length + 1 = (uncTo plan (3 * d + (p + 1))).length := by rw [HC.out, ← HER.out]; simp
                have HT5 := hide ht5; clear ht5
                have hb6 := (hbel.alloc hbel.size (.cells #[.int .i64 d, .int .i64 p] 3)).trans hb5
                go_roundw
                case rel => exact ⟨p + 1, _, _, by omega, by go_num, sl_eq hl5, HT5, hb6⟩
                case measure => simp [intOf] <;> omega
              · have HC := hide (HY.out (by simp [covP, h1, h2]))
                go_wp2_with (first | (go_at_call 89; refine (l22Has_is (by assumption) _ _ _ R1 (by unfold maxLen; omega)).mono ?_; rintro e w3 ⟨rfl, rfl⟩))
                have HT5 := HT
                go_roundw
                case rel => exact ⟨p + 1, A, cap, by omega, by go_num, sl_eq (by rw [HC.out]), hide (tab_eq HT5.out HC.out.symm), hbel⟩
                case measure => simp [intOf] <;> omega
          · obtain rfl : p = 3 := by omega
            go_wp2_with fail
            go_roundw
            case rel => exact ⟨d + 1, A, cap, by omega, by go_num, rfl, HT, hbel⟩
            case measure => simp [intOf] <;> omega
      · obtain rfl : d = 7 := by omega
        go_wp2_with fail
        go_ret2
        rw [HV.out]
        exact ⟨A, cap, rfl, HT.out, hbel⟩
set_option maxRecDepth 100000 in
set_option maxHeartbeats 4000000 in
theorem UncoveredParts_any (staff : List Worker) (plan : List Shift) (A0 A1 : Option Addr) (c0 c1 : Nat) (w : World) (r0 : Rd Worker.enc 4 w.heap.size w A0 staff) (r1 : Rd Shift.enc 4 w.heap.size w A1 plan) (ok0 : ∀ c ∈ staff, c.Ok) (l0 : staff.length ≤ maxLen) (l1 : plan.length ≤ maxLen) (hcap : plan.length ≤ c1) :
    Calls Try.prog 44 #[.slice A0 staff.length c0, .slice A1 plan.length c1] w (GivesT (uncV staff plan) (fun v => .tuple #[v, .bool (planB staff plan)]) w) := by
  cases hp : planB staff plan
  · have HP := hide hp
    have HV := hide (show uncV staff plan = [] by simp [uncV, hp])
    clear hp
    go_enter Try.func44, Try.ntmps44
    go_wp2_with (first | (go_at_call 28; refine (IsPlan_is HP.out _ _ _ _ _ r0 r1 ok0 l0 l1 hcap).mono ?_; rintro e w1 ⟨rfl, hb1⟩))
    go_ret2
    rw [HV.out]
    exact ⟨none, 0, rfl, ⟨[], rfl, own_nil _ _ _, .nil, fun g hg => (by cases hg), fun r hr => by cases hr⟩, hb1⟩
  · have HP := hide hp
    have HV := hide (show uncV staff plan = uncTo plan 21 by simp [uncV, hp])
    have hlen := planB_len hp
    clear hp
    go_enter Try.func44, Try.ntmps44
    go_wp2_with (first | (go_at_call 28; refine (IsPlan_is HP.out _ _ _ _ _ r0 r1 ok0 l0 l1 hcap).mono ?_; rintro e w1 ⟨rfl, hb1⟩))
    have BB := hb1.alloc hb1.size (.cells #[] 29)
    have ht := tab_empty (lo := w.heap.size) (w := w1) hb1.size
    go_loopw [14, 6] (fun i m wr => ∃ (d : Nat) (A : Option Addr) (cap : Nat), d ≤ 7 ∧ i = .int .i64 d ∧ m = .slice A (uncTo plan (3 * d)).length cap ∧ Hid (Tab w.heap.size wr.heap.size wr A cap (uncTo plan (3 * d))) ∧ Below w.heap.size w wr) (fun i _ _ => 7 - (intOf i).toNat)
    case atStart => exact ⟨0, _, _, Nat.zero_le _, rfl, rfl, hide ht, BB⟩
    case round =>
      clear ht BB
      obtain ⟨d, A, cap, hd, rfl, rfl, HT, hbel⟩ := hrel
      by_cases hlt : d < 7
      · have hdi : (d : Int) < 7 := by omega
        go_wp2_with fail
        go_loopw [17, 6] (fun i m wr => ∃ (p : Nat) (A : Option Addr) (cap : Nat), p ≤ 3 ∧ i = .int .i64 p ∧ m = .slice A (uncTo plan (3 * d + p)).length cap ∧ Hid (Tab w.heap.size wr.heap.size wr A cap (uncTo plan (3 * d + p))) ∧ Below w.heap.size w wr) (fun i _ _ => 3 - (intOf i).toNat)
        case atStart => exact ⟨0, A, cap, Nat.zero_le _, rfl, rfl, HT, hbel⟩
        case round =>
          clear HT hbel
          obtain ⟨p, A, cap, hp3, rfl, rfl, HT, hbel⟩ := hrel
          by_cases hlp : p < 3
          · have hpi : (p : Int) < 3 := by omega
            have R1 := r1.later hbel
            have HY := hide (fun h => unc_yes (plan := plan) (d := d) hlp h)
            have HN := hide (fun h => unc_no (plan := plan) (d := d) hlp h)
            cases h1 : hasD plan d p 1
            · as_aux_lemma =>
              have HC := hide (HN.out (by simp [covP, h1]))
              obtain ⟨R, eR, ho, hr, ha, hh⟩ := HT.out
              have hul := (unc_len plan (3 * d + p)).1
              have hRl : R.length ≤ 21 := by rw [← eR, List.length_map] at hul; omega
              rw [← eR, List.length_map]
              have HER := hide eR; have HHA := hide (fun g hg => (ha g hg).2); clear eR ha hh hul
              go_wp2_with (first | (go_at_call 90; refine (hasDuty_is (by assumption) _ _ _ R1 (by unfold maxLen; omega)).mono ?_; rintro e w3 ⟨rfl, hb3⟩; replace hbel := below_step hbel hb3 (Nat.le_refl _); replace R1 := R1.later hb3; replace ho := Own.below ho hb3; replace hr := hr.below hb3; clear hb3) | (at_builtin; have ho' := World.ownsRow.alloc ho (.cells #[.int .i64 d, .int .i64 p] 3); refine wpList_push2 _ rfl (.tmp 32) (.tmp 36) 57 29 rfl Try.underlying57 rowInfo rfl (by omega) (by omega) Row.enc_len Row.enc_one w.heap.size _ _ R ⟨[(d : Int), (p : Int)], some ⟨_, 0, none⟩, 2⟩ _ rfl rfl _ rfl (by first | rfl | simp) ho' (by have := hbel.size; simp; omega) (by omega) ?_; intro q5 cap5 w5 ho5 hb5 hg5 hq5))
              have ht5 := tab_push hbel.size ho hr HHA.out ho5 hg5 hq5
              rw [HER.out, ← HC.out] at ht5
              have hl5 : R.length + 1 = (uncTo plan (3 * d + (p + 1))).length := by rw [HC.out, ← HER.out]; simp
              have HT5 := hide ht5; clear ht5
              have hb6 := (hbel.alloc hbel.size (.cells #[.int .i64 d, .int .i64 p] 3)).trans hb5
              go_roundw
              case rel => exact ⟨p + 1, _, _, by omega, by go_num, sl_eq hl5, HT5, hb6⟩
              case measure => simp [intOf] <;> omega
            · cases h2 : hasD plan d p 2
              · as_aux_lemma =>
                have HC := hide (HN.out (by simp [covP, h1, h2]))
                obtain ⟨R, eR, ho, hr, ha, hh⟩ := HT.out
                have hul := (unc_len plan (3 * d + p)).1
                have hRl : R.length ≤ 21 := by rw [← eR, List.length_map] at hul; omega
                rw [← eR, List.length_map]
                have HER := hide eR; have HHA := hide (fun g hg => (ha g hg).2); clear eR ha hh hul
                go_wp2_with (first | (go_at_call 90; refine (hasDuty_is (by assumption) _ _ _ R1 (by unfold maxLen; omega)).mono ?_; rintro e w3 ⟨rfl, hb3⟩; replace hbel := below_step hbel hb3 (Nat.le_refl _); replace R1 := R1.later hb3; replace ho := Own.below ho hb3; replace hr := hr.below hb3; clear hb3) | (at_builtin; have ho' := World.ownsRow.alloc ho (.cells #[.int .i64 d, .int .i64 p] 3); refine wpList_push2 _ rfl (.tmp 32) (.tmp 36) 57 29 rfl Try.underlying57 rowInfo rfl (by omega) (by omega) Row.enc_len Row.enc_one w.heap.size _ _ R ⟨[(d : Int), (p : Int)], some ⟨_, 0, none⟩, 2⟩ _ rfl rfl _ rfl (by first | rfl | simp) ho' (by have := hbel.size; simp; omega) (by omega) ?_; intro q5 cap5 w5 ho5 hb5 hg5 hq5))
                have ht5 := tab_push hbel.size ho hr HHA.out ho5 hg5 hq5
                rw [HER.out, ← HC.out] at ht5
                have hl5 : R.length + 1 = (uncTo plan (3 * d + (p + 1))).length := by rw [HC.out, ← HER.out]; simp
                have HT5 := hide ht5; clear ht5
                have hb6 := (hbel.alloc hbel.size (.cells #[.int .i64 d, .int .i64 p] 3)).trans hb5
                go_roundw
                case rel => exact ⟨p + 1, _, _, by omega, by go_num, sl_eq hl5, HT5, hb6⟩
                case measure => simp [intOf] <;> omega
              · have HC := hide (HY.out (by simp [covP, h1, h2]))
                go_wp2_with (go_at_call 90; refine (hasDuty_is (by assumption) _ _ _ R1 (by unfold maxLen; omega)).mono ?_; rintro e w3 ⟨rfl, hb3⟩; replace hbel := below_step hbel hb3 (Nat.le_refl _); replace R1 := R1.later hb3; replace HT := hide ((HT.out.below hb3).mono (Nat.le_refl _) hb3.size); clear hb3)
                have HT5 := HT
                go_roundw
                case rel => exact ⟨p + 1, A, cap, by omega, by go_num, sl_eq (by rw [HC.out]), hide (tab_eq HT5.out HC.out.symm), hbel⟩
                case measure => simp [intOf] <;> omega
          · obtain rfl : p = 3 := by omega
            go_wp2_with fail
            go_roundw
            case rel => exact ⟨d + 1, A, cap, by omega, by go_num, rfl, HT, hbel⟩
            case measure => simp [intOf] <;> omega
      · obtain rfl : d = 7 := by omega
        go_wp2_with fail
        go_ret2
        rw [HV.out]
        exact ⟨A, cap, rfl, HT.out, hbel⟩
end Go.Proofs.Ytfaicjlpncidgaa
