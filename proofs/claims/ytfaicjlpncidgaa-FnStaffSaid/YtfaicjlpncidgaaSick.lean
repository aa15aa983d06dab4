/- SickWorker: a plan without a worker's shifts from a day on; the program's function and the reference's. -/
import Derived.Test.YtfaicjlpncidgaaHours
import Derived.Test.YtfaicjlpncidgaaDlShift
namespace Go.Proofs.Ytfaicjlpncidgaa
open Go Go.RowKit
def sickB (staff : List Worker) (plan : List Shift) (id from_ : Int) : Bool := planB staff plan && (staff.any (isId id) && inB from_ 0 6)
def sickP (id from_ : Int) (s : Shift) : Bool := s.who == id && decide (from_ ≤ s.day)
def sickL (staff : List Worker) (plan : List Shift) (id from_ : Int) : List Shift := if sickB staff plan id from_ then plan.filter fun s => !sickP id from_ s else []
def sickN (staff : List Worker) (plan : List Shift) (id from_ : Int) : Int := if sickB staff plan id from_ then (plan.length : Int) - (sickL staff plan id from_).length else 0
theorem sickL_len (staff : List Worker) (plan : List Shift) (id from_ : Int) : (sickL staff plan id from_).length ≤ 40 := by
  unfold sickL
  split
  · rename_i h
    simp only [sickB, Bool.and_eq_true] at h
    exact Nat.le_trans (List.length_filter_le _ _) (planB_len h.1)
  · exact Nat.zero_le _
theorem sick_pred (id from_ : Int) (L : List Shift) (lo : Nat) (w : World) (B1 B2 : Nat) (h1 : B1 < lo) (h2 : B2 < lo)
    (hc : w.cell? ⟨B1, 0, none⟩ = some (.int .i64 id)) (ha : w.cell? ⟨B2, 0, none⟩ = some (.int .i64 from_)) :
    Shift.PredB 84 #[.pointer (some ⟨B1, 0, none⟩), .pointer (some ⟨B2, 0, none⟩)] (sickP id from_) L lo w := by
  refine ⟨entersF Try.func84 (by kernel_rfl) rfl, fun W c _ hb => ?_⟩
  have g1 : W.cell? ⟨B1, 0, none⟩ = some (.int .i64 id) := (hb.cell h1).trans hc
  have g2 : W.cell? ⟨B2, 0, none⟩ = some (.int .i64 from_) := (hb.cell h2).trans ha
  have q1 := below_cell ((Below.refl W.heap.size W).alloc (Nat.le_refl _) (.cells #[.int .i64 c.day, .int .i64 c.part, .int .i64 c.who, .int .i64 c.duty] 66)) g1
  have q2 := below_cell ((Below.refl W.heap.size W).alloc (Nat.le_refl _) (.cells #[.int .i64 c.day, .int .i64 c.part, .int .i64 c.who, .int .i64 c.duty] 66)) g2
  show Calls Try.prog 84 #[.agg #[.int .i64 c.day, .int .i64 c.part, .int .i64 c.who, .int .i64 c.duty], .pointer (some ⟨B1, 0, none⟩), .pointer (some ⟨B2, 0, none⟩)] W _
  cases hw : (c.who == id)
  · go_enter Try.func84, Try.ntmps84
    go_wp2_with fail
    go_ret
    exact ⟨ret_bool (by simp [sickP, hw]), (Below.refl _ _).alloc (Nat.le_refl _) _⟩
  · go_enter Try.func84, Try.ntmps84
    go_wp2_with fail
    go_ret
    exact ⟨ret_bool (by simp [sickP, hw]), (Below.refl _ _).alloc (Nat.le_refl _) _⟩
theorem idx_any {α : Type} {p : α → Bool} {L : List α} : decide (0 ≤ idxF p L) = L.any p := by
  rcases idxF_cases p L with ⟨h1, h2⟩ | ⟨k, _, h1, _, _, _, h2, _⟩
  · rw [h1, h2]; rfl
  · rw [h1, h2]; simp

set_option maxHeartbeats 1000000 in
theorem SickWorker_any (staff : List Worker) (plan : List Shift) (id from_ : Int) (A0 A1 : Option Addr) (c0 c1 : Nat) (w : World) (r0 : Rd Worker.enc 4 w.heap.size w A0 staff) (r1 : Rd Shift.enc 4 w.heap.size w A1 plan) (ok0 : ∀ c ∈ staff, c.Ok) (l0 : staff.length ≤ maxLen) (l1 : plan.length ≤ maxLen) (hcap : plan.length ≤ c1) :
    Calls Try.prog 33 #[.slice A0 staff.length c0, .slice A1 plan.length c1, .int .i64 id, .int .i64 from_] w (Gives (sickL staff plan id from_).length (fun v => .tuple #[v, .int .i64 (sickN staff plan id from_), .bool (sickB staff plan id from_)]) (fun w' v => Own Shift.enc 4 66 w.heap.size w' v (sickL staff plan id from_)) w) := by
  have hba : Below w.heap.size w ((w.alloc (.cells #[.int .i64 id] 3)).alloc (.cells #[.int .i64 from_] 3)) := ((Below.refl _ _).alloc (Nat.le_refl _) _).alloc (by simp) _
  have x1 : ((w.alloc (.cells #[.int .i64 id] 3)).alloc (.cells #[.int .i64 from_] 3)).cell? ⟨w.heap.size, 0, none⟩ = some (.int .i64 id) := by simp
  have x2 : ((w.alloc (.cells #[.int .i64 id] 3)).alloc (.cells #[.int .i64 from_] 3)).cell? ⟨w.heap.size + 1, 0, none⟩ = some (.int .i64 from_) := by simp
  cases hp : planB staff plan
  · have HP := hide hp; clear hp
    have HB := hide (show sickB staff plan id from_ = false by simp [sickB, HP.out])
    go_enter Try.func33, Try.ntmps33
    go_wp2_with (go_at_call 28; refine (IsPlan_is HP.out _ _ _ _ _ (r0.later hba) (r1.later hba) ok0 l0 l1 hcap).mono ?_; rintro e w1 ⟨rfl, hb1⟩)
    go_ret3
    exact ⟨none, 0, by simp [sickL, sickN, HB.out], by simp [sickL, HB.out]; exact own_nil _ _ _, below_step hba hb1 (Nat.le_refl _)⟩
  · have HP := hide hp; clear hp
    rcases idxF_cases (isId id) staff with ⟨hi, hany⟩ | ⟨kk, wk, hi, hkl, hgk, hpk, hany, hno⟩
    · have HI := hide hi; clear hi
      have HB := hide (show sickB staff plan id from_ = false by simp only [sickB, HP.out, hany]; rfl)
      clear hany
      go_enter Try.func33, Try.ntmps33
      go_wp2_with (first | (go_at_call 28; refine (IsPlan_is HP.out _ _ _ _ _ (r0.later hba) (r1.later hba) ok0 l0 l1 hcap).mono ?_; rintro e w1 ⟨rfl, hb1⟩; have y1 := below_cell hb1 x1; have y2 := below_cell hb1 x2) | (go_at_call 69; refine (workerOf_is HI.out _ _ _ ((r0.later hba).later hb1) l0).mono ?_; rintro e w2 ⟨rfl, hb2⟩; have z1 := below_cell hb2 y1; have z2 := below_cell hb2 y2))
      go_ret3
      exact ⟨none, 0, by simp [sickL, sickN, HB.out], by simp [sickL, HB.out]; exact own_nil _ _ _, below_step (below_step hba hb1 (Nat.le_refl _)) hb2 (Nat.le_refl _)⟩
    · have HI := hide hi; clear hi hno hgk hpk
      have hk0 : (0 : Int) ≤ (kk : Int) := by omega
      cases hf : inB from_ 0 6
      · have HF := hide hf
        have HB := hide (show sickB staff plan id from_ = false by simp only [sickB, HP.out, hany, hf]; rfl)
        clear hany hf
        go_enter Try.func33, Try.ntmps33
        go_wp2_with (first | (go_at_call 28; refine (IsPlan_is HP.out _ _ _ _ _ (r0.later hba) (r1.later hba) ok0 l0 l1 hcap).mono ?_; rintro e w1 ⟨rfl, hb1⟩; have y1 := below_cell hb1 x1; have y2 := below_cell hb1 x2) | (go_at_call 69; refine (workerOf_is HI.out _ _ _ ((r0.later hba).later hb1) l0).mono ?_; rintro e w2 ⟨rfl, hb2⟩; have z1 := below_cell hb2 y1; have z2 := below_cell hb2 y2) | (go_at_call 64; refine (within_is HF.out _).mono ?_; rintro e w' ⟨rfl, rfl⟩))
        go_ret3
        exact ⟨none, 0, by simp [sickL, sickN, HB.out], by simp [sickL, HB.out]; exact own_nil _ _ _, below_step (below_step hba hb1 (Nat.le_refl _)) hb2 (Nat.le_refl _)⟩
      · have HF := hide hf
        have HB := hide (show sickB staff plan id from_ = true by simp only [sickB, HP.out, hany, hf]; rfl)
        have hl40 := planB_len HP.out
        have hfl : (plan.filter fun s => !sickP id from_ s).length ≤ plan.length := List.length_filter_le _ _
        have HL := hide (show sickL staff plan id from_ = plan.filter fun s => !sickP id from_ s by simp [sickL, HB.out])
        have HN := hide (show sickN staff plan id from_ = (plan.length : Int) - (plan.filter fun s => !sickP id from_ s).length by simp [sickN, HL.out, HB.out])
        have hsz := hba.size
        have hsz' : w.heap.size + 2 ≤ ((w.alloc (.cells #[.int .i64 id] 3)).alloc (.cells #[.int .i64 from_] 3)).heap.size := by simp
        clear hany hf
        go_enter Try.func33, Try.ntmps33
        go_wp2_with (first | (go_at_call 28; refine (IsPlan_is HP.out _ _ _ _ _ (r0.later hba) (r1.later hba) ok0 l0 l1 hcap).mono ?_; rintro e w1 ⟨rfl, hb1⟩; have y1 := below_cell hb1 x1; have y2 := below_cell hb1 x2) | (go_at_call 69; refine (workerOf_is HI.out _ _ _ ((r0.later hba).later hb1) l0).mono ?_; rintro e w2 ⟨rfl, hb2⟩; have z1 := below_cell hb2 y1; have z2 := below_cell hb2 y2) | (go_at_call 64; refine (within_is HF.out _).mono ?_; rintro e w' ⟨rfl, rfl⟩) | (go_at_call 83; refine (Shift.Clone_any plan _ _ _ (((r1.later hba).later hb1).later hb2) (by have := planB_len HP.out; omega)).mono ?_; rintro e w3 ⟨A', c', rfl, ho, hb3⟩) | (go_at_call 82; refine (Shift.DeleteFunc_any _ _ (sickP id from_) plan _ _ w2.heap.size _ ho hb3.size (by have := planB_len HP.out; omega) (sick_pred id from_ plan w2.heap.size _ w.heap.size (w.heap.size + 1) (by have := hb1.size; have := hb2.size; omega) (by have := hb1.size; have := hb2.size; omega) (below_cell hb3 z1) (below_cell hb3 z2))).mono ?_; rintro e w4 ⟨rfl, ho4, hb4⟩))
        go_ret3
        rw [HL.out, HN.out, HB.out]
        exact ⟨_, _, rfl, Own.mono_ ho4 (by have := hb1.size; have := hb2.size; omega), below_step (below_step (below_step hba hb1 (Nat.le_refl _)) hb2 (Nat.le_refl _)) (hb3.trans hb4) (Nat.le_refl _)⟩

set_option maxHeartbeats 1000000 in
theorem SickWorker_spec (staff : List Worker) (plan : List Shift) (id from_ : Int) (A0 A1 : Option Addr) (c0 c1 : Nat) (w : World) (r0 : Rd Worker.enc 4 w.heap.size w A0 staff) (r1 : Rd Shift.enc 4 w.heap.size w A1 plan) (ok0 : ∀ c ∈ staff, c.Ok) (l0 : staff.length ≤ maxLen) (l1 : plan.length ≤ maxLen) :
    Calls Try.prog 32 #[.slice A0 staff.length c0, .slice A1 plan.length c1, .int .i64 id, .int .i64 from_] w (Gives (sickL staff plan id from_).length (fun v => .tuple #[v, .int .i64 (sickN staff plan id from_), .bool (sickB staff plan id from_)]) (fun w' v => Own Shift.enc 4 66 w.heap.size w' v (sickL staff plan id from_)) w) := by
  have hba : Below w.heap.size w (w.alloc (.cells #[] 66)) := (Below.refl _ _).alloc (Nat.le_refl _) _
  have hown0 : Own Shift.enc 4 66 w.heap.size (w.alloc (.cells #[] 66)) (.slice (some ⟨w.heap.size, 0, none⟩) 0 0) [] := own_empty (Nat.le_refl _)
  cases hp : planB staff plan
  · have HP := hide hp; clear hp
    have HB := hide (show sickB staff plan id from_ = false by simp [sickB, HP.out])
    go_enter Try.func32, Try.ntmps32
    go_wp2_with (go_at_call 68; refine (l22Plan_is HP.out _ _ _ _ _ (r0.later hba) (r1.later hba) ok0 l0 l1).mono ?_; rintro e w1 ⟨rfl, hb1⟩)
    go_ret3
    exact ⟨some ⟨w.heap.size, 0, none⟩, 0, by simp [sickL, sickN, HB.out], by simp [sickL, HB.out]; exact Own.below hown0 hb1, below_step hba hb1 (Nat.le_refl _)⟩
  · have HP := hide hp; clear hp
    rcases idxF_cases (isId id) staff with ⟨hi, hany⟩ | ⟨kk, wk, hi, hkl, hgk, hpk, hany, hno⟩
    · have HI := hide hi; clear hi
      have HB := hide (show sickB staff plan id from_ = false by simp only [sickB, HP.out, hany]; rfl)
      clear hany
      go_enter Try.func32, Try.ntmps32
      go_wp2_with (first | (go_at_call 68; refine (l22Plan_is HP.out _ _ _ _ _ (r0.later hba) (r1.later hba) ok0 l0 l1).mono ?_; rintro e w1 ⟨rfl, hb1⟩) | (go_at_call 79; refine (find_is HI.out _ _ _ ((r0.later hba).later hb1) l0).mono ?_; rintro e w2 ⟨rfl, rfl⟩))
      go_ret3
      exact ⟨some ⟨w.heap.size, 0, none⟩, 0, by simp [sickL, sickN, HB.out], by simp [sickL, HB.out]; exact Own.below hown0 hb1, below_step hba hb1 (Nat.le_refl _)⟩
    · have HI := hide hi; clear hi hno hgk hpk
      have hk0 : (0 : Int) ≤ (kk : Int) := by omega
      cases hf : inB from_ 0 6
      · have HF := hide hf
        have HB := hide (show sickB staff plan id from_ = false by simp only [sickB, HP.out, hany, hf]; rfl)
        clear hany hf
        go_enter Try.func32, Try.ntmps32
        go_wp2_with (first | (go_at_call 68; refine (l22Plan_is HP.out _ _ _ _ _ (r0.later hba) (r1.later hba) ok0 l0 l1).mono ?_; rintro e w1 ⟨rfl, hb1⟩) | (go_at_call 79; refine (find_is HI.out _ _ _ ((r0.later hba).later hb1) l0).mono ?_; rintro e w2 ⟨rfl, rfl⟩) | (go_at_call 81; refine (l1In_is HF.out _).mono ?_; rintro e w' ⟨rfl, rfl⟩))
        go_ret3
        exact ⟨some ⟨w.heap.size, 0, none⟩, 0, by simp [sickL, sickN, HB.out], by simp [sickL, HB.out]; exact Own.below hown0 hb1, below_step hba hb1 (Nat.le_refl _)⟩
      · have HF := hide hf
        have HB := hide (show sickB staff plan id from_ = true by simp only [sickB, HP.out, hany, hf]; rfl)
        have hl40 := planB_len HP.out
        have hfl : (plan.filter fun s => !sickP id from_ s).length ≤ plan.length := List.length_filter_le _ _
        have HL := hide (show sickL staff plan id from_ = plan.filter fun s => !sickP id from_ s by simp [sickL, HB.out])
        have HN := hide (show sickN staff plan id from_ = (plan.length : Int) - (plan.filter fun s => !sickP id from_ s).length by simp [sickN, HL.out, HB.out])
        clear hany hf
        go_enter Try.func32, Try.ntmps32
        go_wp2_with (first | (go_at_call 68; refine (l22Plan_is HP.out _ _ _ _ _ (r0.later hba) (r1.later hba) ok0 l0 l1).mono ?_; rintro e w1 ⟨rfl, hb1⟩) | (go_at_call 79; refine (find_is HI.out _ _ _ ((r0.later hba).later hb1) l0).mono ?_; rintro e w2 ⟨rfl, rfl⟩) | (go_at_call 81; refine (l1In_is HF.out _).mono ?_; rintro e w' ⟨rfl, rfl⟩))
        go_loopw [12, 11] (fun i m wr => ∃ (k : Nat) (A' : Option Addr) (cap' : Nat), k ≤ plan.length ∧ i = .int .i64 k ∧ m = .slice A' (keepL (sickP id from_) plan k).length cap' ∧ Own Shift.enc 4 66 w.heap.size wr (.slice A' (keepL (sickP id from_) plan k).length cap') (keepL (sickP id from_) plan k) ∧ Below w.heap.size w wr) (fun i _ _ => plan.length - (intOf i).toNat)
        case atStart => exact ⟨0, _, _, Nat.zero_le _, rfl, rfl, Own.below hown0 hb1, below_step hba hb1 (Nat.le_refl _)⟩
        case round =>
          clear hown0 hb1
          obtain ⟨k, A', cap', hk, rfl, rfl, hown, hbel⟩ := hrel
          by_cases hlt : k < plan.length
          · obtain ⟨b, o, rfl, hb, hc⟩ := Shift.rd_at r1 (by intro h; subst h; simp at hlt)
            have hget := List.getElem?_eq_getElem hlt
            obtain ⟨c0, c1, c2, c3⟩ := hc k _ hget
            have HY := hide (keep_yes (p := sickP id from_) hget)
            have HN := hide (keep_no (p := sickP id from_) hget)
            have hul := keep_len (sickP id from_) plan k
            generalize plan[k] = c at *
            clear hc r1 hget
            replace c0 := below_cell hbel c0
            replace c1 := below_cell hbel c1
            replace c2 := below_cell hbel c2
            replace c3 := below_cell hbel c3
            generalize keepL (sickP id from_) plan k = U at *
            have hwb := hbel.size
            have hki : (k : Int) < (plan.length : Int) := by omega
            cases hpc : sickP id from_ c
            · have HD := hide hpc
              have HX : (c.who == id) = false ∨ (c.who == id) = true ∧ ¬ from_ ≤ c.day := by
                cases hw : (c.who == id)
                · exact .inl rfl
                · right; refine ⟨rfl, ?_⟩; intro h; simp [sickP, hw, h] at hpc
              clear hpc
              rcases HX with hw | ⟨hw, hd⟩
              · have hw' : (c.who != id) = true := by simp only [bne, hw]; rfl
                go_wp2_with (at_builtin; refine wpList_push _ rfl (.tmp 52) (.tmp 57) 38 66 rfl Try.underlying38 Shift.infoE rfl (by omega) (by omega) Shift.enc_len Shift.enc_one w.heap.size A' cap' U c _ rfl rfl _ rfl rfl hown (by omega) (by omega) ?_; intro A2 cap2 w3 ho3 hb3)
                go_roundw
                case rel => exact ⟨k + 1, A2, cap2, by omega, by go_num, sl_eq (by rw [HY.out HD.out]; simp), by rw [HY.out HD.out, List.length_append]; exact ho3, hbel.trans hb3⟩
                case measure => simp [intOf]; omega
              · have hw' : (c.who != id) = false := by simp only [bne, hw]; rfl
                go_wp2_with (at_builtin; refine wpList_push _ rfl (.tmp 52) (.tmp 57) 38 66 rfl Try.underlying38 Shift.infoE rfl (by omega) (by omega) Shift.enc_len Shift.enc_one w.heap.size A' cap' U c _ rfl rfl _ rfl rfl hown (by omega) (by omega) ?_; intro A2 cap2 w3 ho3 hb3)
                go_roundw
                case rel => exact ⟨k + 1, A2, cap2, by omega, by go_num, sl_eq (by rw [HY.out HD.out]; simp), by rw [HY.out HD.out, List.length_append]; exact ho3, hbel.trans hb3⟩
                case measure => simp [intOf]; omega
            · have HD := hide hpc
              have hx : (c.who == id) = true ∧ from_ ≤ c.day := by simpa [sickP] using hpc
              obtain ⟨hw, hd⟩ := hx
              have hw' : (c.who != id) = false := by simp only [bne, hw]; rfl
              clear hpc
              go_wp2_with fail
              go_roundw
              case rel => exact ⟨k + 1, A', cap', by omega, by go_num, sl_eq (by rw [HN.out HD.out]), by rw [HN.out HD.out]; exact hown, hbel⟩
              case measure => simp [intOf]; omega
          · obtain rfl : k = plan.length := by omega
            have hke : keepL (sickP id from_) plan plan.length = plan.filter fun s => !sickP id from_ s := keep_end (Nat.le_refl _)
            rw [hke] at hown ⊢
            go_wp2_with fail
            go_ret3
            rw [HL.out, HN.out, HB.out]
            exact ⟨_, _, rfl, hown, hbel⟩
end Go.Proofs.Ytfaicjlpncidgaa
