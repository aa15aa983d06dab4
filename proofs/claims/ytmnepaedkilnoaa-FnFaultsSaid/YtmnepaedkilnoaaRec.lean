/- Records: whether events are a record; the program's function and the reference's. Slices are as the reader gives them. -/
import Derived.Test.YtmnepaedkilnoaaFaultsM
namespace Go.Proofs.Ytmnepaedkilnoaa
open Go Go.RowKit
set_option linter.unusedVariables false
theorem l20Code_any (n : Int) (w : World) : Calls Try.prog 80 #[.int .i64 n] w fun e w' => e = .returned (.bool (inB n 1 20)) ∧ w = w' := by
  go_enter Try.func80, Try.ntmps80
  go_wp2_with (go_at_call 63; refine (l1In_any _ _ _ _).mono ?_; rintro e w' ⟨rfl, rfl⟩)
  go_ret
  exact ⟨rfl, rfl⟩
theorem l20Code_is {n : Int} {b : Bool} (h : inB n 1 20 = b) (w : World) : Calls Try.prog 80 #[.int .i64 n] w fun e w' => e = .returned (.bool b) ∧ w = w' := h ▸ l20Code_any n w
set_option maxHeartbeats 2000000 in
theorem IsRecordOf_any (L : List Event) (A : Option Addr) (cap : Nat) (w : World) (hr : Rd Event.enc 2 w.heap.size w A L) (hok : ∀ c ∈ L, c.Ok) (hl : L.length ≤ maxLen) :
    Calls Try.prog 17 #[.slice A L.length cap] w fun e w' => e = .returned (.bool (riseB evB evLt 30 L)) ∧ Below w.heap.size w w' := by
  unfold maxLen at hl
  by_cases hL : L = []
  · subst hL
    go_enter Try.func17, Try.ntmps17
    go_wp2_with fail
    go_loop [7] (fun i => i = .int .i64 0) (fun _ => 0)
    case atStart => rfl
    case round =>
      obtain rfl := hrel
      go_wp2_with fail
      go_ret
      exact ⟨rfl, Below.refl _ _⟩
  · obtain ⟨b, o, rfl, hb, hc⟩ := Event.rd_at hr hL
    clear hr
    go_enter Try.func17, Try.ntmps17
    go_wp2_with fail
    go_loopw [7] (fun i wr => ∃ k : Nat, k ≤ L.length ∧ i = .int .i64 k ∧ Hid (∀ j, j < k → riseAt evB evLt L j = true) ∧ Below w.heap.size w wr) (fun i _ => L.length - (intOf i).toNat)
    case atStart => exact ⟨0, Nat.zero_le _, rfl, hide (fun j hj => absurd hj (Nat.not_lt_zero j)), Below.refl _ _⟩
    case round =>
      obtain ⟨k, hk, rfl, hp, hbel⟩ := hrel
      by_cases hlt : k < L.length
      · have hget := List.getElem?_eq_getElem hlt
        obtain ⟨c0, c1⟩ := hc k _ hget
        have hokc := hide (hok L[k] (List.getElem_mem hlt))
        generalize L[k] = c at *
        have HG := hide hget; clear hget
        replace c0 := below_cell hbel c0
        replace c1 := below_cell hbel c1
        have E := Event.box_after wr c 58
        have hki : (k : Int) < (L.length : Int) := by omega
        cases h0 : inB c.time 0 100000
        · have HO := hide (show evB c = false by simp [evB, h0])
          go_wp2_with fail
          refine wp_region_after (by kernel_rfl) (by kernel_rfl) ?_
          repeat (go_big_quiet_step ((first | (go_at_call 56; exact Calls.after_same (within_is (by assumption) _)))))
          refine wpQuiet_nil ?_
          rintro _ ⟨⟨w1, hb1⟩, rfl⟩
          go_wp2_with fail
          go_ret
          exact ⟨ret_bool (riseB_no hlt (rise_bad HG.out HO.out)).symm, below_next hbel hb1 (Nat.le_refl _)⟩
        · have HZ0 := True.intro
          cases h1 : inB c.code 1 20
          · have HO := hide (show evB c = false by simp [evB, h0, h1])
            go_wp2_with fail
            refine wp_region_after (by kernel_rfl) (by kernel_rfl) ?_
            repeat (go_big_quiet_step ((first | (go_at_call 56; exact Calls.after_same (within_is (by assumption) _)))))
            refine wpQuiet_nil ?_
            rintro _ ⟨⟨w1, hb1⟩, rfl⟩
            go_wp2_with fail
            go_ret
            exact ⟨ret_bool (riseB_no hlt (rise_bad HG.out HO.out)).symm, below_next hbel hb1 (Nat.le_refl _)⟩
          · have HZ1 := True.intro
            have HO := hide (show evB c = true by simp [evB, h0, h1])
            rcases Nat.eq_zero_or_pos k with rfl | hk0
            · have HZ := True.intro
              simp only [Nat.zero_mul, Nat.add_zero] at c0 c1
              go_wp2_with fail
              refine wp_region_after (by kernel_rfl) (by kernel_rfl) ?_
              repeat (go_big_quiet_step ((first | (go_at_call 56; exact Calls.after_same (within_is (by assumption) _)))))
              refine wpQuiet_nil ?_
              rintro _ ⟨⟨w1, hb1⟩, rfl⟩
              go_wp2_with fail
              go_roundw
              case rel => exact ⟨0 + 1, by omega, by go_num, hide (upto_step hp.out (rise_first HG.out HO.out)), below_next hbel hb1 (Nat.le_refl _)⟩
              case measure => simp [intOf]; omega
            · have hgd := List.getElem?_eq_getElem (show k - 1 < L.length by omega)
              obtain ⟨p0, p1⟩ := hc (k - 1) _ hgd
              generalize L[k - 1] = d at *
              have HD := hide hgd; clear hgd
              replace p0 := after_alloc (.cells #[.int .i64 c.time, .int .i64 c.code] 58) (below_cell hbel p0)
              replace p1 := after_alloc (.cells #[.int .i64 c.time, .int .i64 c.code] 58) (below_cell hbel p1)
              have hk1 : (0 : Int) < (k : Int) := by omega
              cases hlow : evLt d c
              · have HL := hide hlow
                have hkey : ¬ d.time ≤ c.time := by simpa [evLt] using hlow
                have hb0 : decide (c.time < d.time) = true := by simp; omega
                clear hlow
                go_wp2_with fail
                refine wp_region_after (by kernel_rfl) (by kernel_rfl) ?_
                repeat (go_big_quiet_step ((first | (go_at_call 56; exact Calls.after_same (within_is (by assumption) _)))))
                refine wpQuiet_nil ?_
                rintro _ ⟨⟨w1, hb1⟩, rfl⟩
                go_wp2_with fail
                go_ret
                exact ⟨ret_bool (riseB_no hlt (rise_low HG.out HD.out hk0 HL.out)).symm, below_next hbel hb1 (Nat.le_refl _)⟩
              · have HL := hide hlow
                have hkey : d.time ≤ c.time := by simpa [evLt] using hlow
                have hb0 : decide (c.time < d.time) = false := by simp; omega
                clear hlow
                go_wp2_with fail
                refine wp_region_after (by kernel_rfl) (by kernel_rfl) ?_
                repeat (go_big_quiet_step ((first | (go_at_call 56; exact Calls.after_same (within_is (by assumption) _)))))
                refine wpQuiet_nil ?_
                rintro _ ⟨⟨w1, hb1⟩, rfl⟩
                go_wp2_with fail
                go_roundw
                case rel => exact ⟨k + 1, by omega, by go_num, hide (upto_step hp.out (rise_next HG.out HD.out HO.out HL.out)), below_next hbel hb1 (Nat.le_refl _)⟩
                case measure => simp [intOf]; omega
      · go_wp2_with fail
        go_ret
        exact ⟨ret_bool (by rw [riseB_all (by omega) hp.out]; simp; omega), hbel⟩

set_option maxHeartbeats 2000000 in
theorem l20Record_any (L : List Event) (A : Option Addr) (cap : Nat) (w : World) (hr : Rd Event.enc 2 w.heap.size w A L) (hok : ∀ c ∈ L, c.Ok) (hl : L.length ≤ maxLen) :
    Calls Try.prog 54 #[.slice A L.length cap] w fun e w' => e = .returned (.bool (riseB evB evLt 30 L)) ∧ Below w.heap.size w w' := by
  unfold maxLen at hl
  by_cases hL : L = []
  · subst hL
    go_enter Try.func54, Try.ntmps54
    go_wp2_with fail
    go_loop [3] (fun i => i = .int .i64 0) (fun _ => 0)
    case atStart => rfl
    case round =>
      obtain rfl := hrel
      go_wp2_with fail
      go_ret
      exact ⟨rfl, Below.refl _ _⟩
  · obtain ⟨b, o, rfl, hb, hc⟩ := Event.rd_at hr hL
    clear hr
    go_enter Try.func54, Try.ntmps54
    go_wp2_with fail
    go_loopw [3] (fun i wr => ∃ k : Nat, k ≤ L.length ∧ i = .int .i64 k ∧ Hid (∀ j, j < k → riseAt evB evLt L j = true) ∧ Below w.heap.size w wr) (fun i _ => L.length - (intOf i).toNat)
    case atStart => exact ⟨0, Nat.zero_le _, rfl, hide (fun j hj => absurd hj (Nat.not_lt_zero j)), Below.refl _ _⟩
    case round =>
      obtain ⟨k, hk, rfl, hp, hbel⟩ := hrel
      by_cases hlt : k < L.length
      · have hget := List.getElem?_eq_getElem hlt
        obtain ⟨c0, c1⟩ := hc k _ hget
        have hokc := hide (hok L[k] (List.getElem_mem hlt))
        generalize L[k] = c at *
        have HG := hide hget; clear hget
        replace c0 := after_cell (below_cell hbel c0)
        replace c1 := after_cell (below_cell hbel c1)
        have hki : (k : Int) < (L.length : Int) := by omega
        cases h0 : inB c.time 0 100000
        · have HO := hide (show evB c = false by simp [evB, h0])
          go_wp2_with fail
          refine wp_region_after (by kernel_rfl) (by kernel_rfl) ?_
          repeat (go_big_quiet_step ((first | (go_at_call 63; exact Calls.after_same (l1In_is (by assumption) _)) | (go_at_call 80; exact Calls.after_same (l20Code_is (by assumption) _)))))
          refine wpQuiet_nil ?_
          rintro _ ⟨⟨w1, hb1⟩, rfl⟩
          go_wp2_with fail
          go_ret
          exact ⟨ret_bool (riseB_no hlt (rise_bad HG.out HO.out)).symm, below_step hbel hb1 (Nat.le_refl _)⟩
        · have HZ0 := True.intro
          cases h1 : inB c.code 1 20
          · have HO := hide (show evB c = false by simp [evB, h0, h1])
            go_wp2_with fail
            refine wp_region_after (by kernel_rfl) (by kernel_rfl) ?_
            repeat (go_big_quiet_step ((first | (go_at_call 63; exact Calls.after_same (l1In_is (by assumption) _)) | (go_at_call 80; exact Calls.after_same (l20Code_is (by assumption) _)))))
            refine wpQuiet_nil ?_
            rintro _ ⟨⟨w1, hb1⟩, rfl⟩
            go_wp2_with fail
            go_ret
            exact ⟨ret_bool (riseB_no hlt (rise_bad HG.out HO.out)).symm, below_step hbel hb1 (Nat.le_refl _)⟩
          · have HZ1 := True.intro
            have HO := hide (show evB c = true by simp [evB, h0, h1])
            rcases Nat.eq_zero_or_pos k with rfl | hk0
            · have HZ := True.intro
              simp only [Nat.zero_mul, Nat.add_zero] at c0 c1
              go_wp2_with fail
              refine wp_region_after (by kernel_rfl) (by kernel_rfl) ?_
              repeat (go_big_quiet_step ((first | (go_at_call 63; exact Calls.after_same (l1In_is (by assumption) _)) | (go_at_call 80; exact Calls.after_same (l20Code_is (by assumption) _)))))
              refine wpQuiet_nil ?_
              rintro _ ⟨⟨w1, hb1⟩, rfl⟩
              go_wp2_with fail
              go_roundw
              case rel => exact ⟨0 + 1, by omega, by go_num, hide (upto_step hp.out (rise_first HG.out HO.out)), below_step hbel hb1 (Nat.le_refl _)⟩
              case measure => simp [intOf]; omega
            · have hgd := List.getElem?_eq_getElem (show k - 1 < L.length by omega)
              obtain ⟨p0, p1⟩ := hc (k - 1) _ hgd
              generalize L[k - 1] = d at *
              have HD := hide hgd; clear hgd
              replace p0 := after_cell (below_cell hbel p0)
              replace p1 := after_cell (below_cell hbel p1)
              have hk1 : (0 : Int) < (k : Int) := by omega
              cases hlow : evLt d c
              · have HL := hide hlow
                have hkey : ¬ d.time ≤ c.time := by simpa [evLt] using hlow
                have hb0 : decide (c.time < d.time) = true := by simp; omega
                clear hlow
                go_wp2_with fail
                refine wp_region_after (by kernel_rfl) (by kernel_rfl) ?_
                repeat (go_big_quiet_step ((first | (go_at_call 63; exact Calls.after_same (l1In_is (by assumption) _)) | (go_at_call 80; exact Calls.after_same (l20Code_is (by assumption) _)))))
                refine wpQuiet_nil ?_
                rintro _ ⟨⟨w1, hb1⟩, rfl⟩
                go_wp2_with fail
                go_ret
                exact ⟨ret_bool (riseB_no hlt (rise_low HG.out HD.out hk0 HL.out)).symm, below_step hbel hb1 (Nat.le_refl _)⟩
              · have HL := hide hlow
                have hkey : d.time ≤ c.time := by simpa [evLt] using hlow
                have hb0 : decide (c.time < d.time) = false := by simp; omega
                clear hlow
                go_wp2_with fail
                refine wp_region_after (by kernel_rfl) (by kernel_rfl) ?_
                repeat (go_big_quiet_step ((first | (go_at_call 63; exact Calls.after_same (l1In_is (by assumption) _)) | (go_at_call 80; exact Calls.after_same (l20Code_is (by assumption) _)))))
                refine wpQuiet_nil ?_
                rintro _ ⟨⟨w1, hb1⟩, rfl⟩
                go_wp2_with fail
                go_roundw
                case rel => exact ⟨k + 1, by omega, by go_num, hide (upto_step hp.out (rise_next HG.out HD.out HO.out HL.out)), below_step hbel hb1 (Nat.le_refl _)⟩
                case measure => simp [intOf]; omega
      · go_wp2_with fail
        go_ret
        exact ⟨ret_bool (by rw [riseB_all (by omega) hp.out]; simp; omega), hbel⟩

theorem IsRecordOf_is {L : List Event} {b : Bool} (h : recB L = b) (A : Option Addr) (cap : Nat) (w : World) (hr : Rd Event.enc 2 w.heap.size w A L) (hok : ∀ c ∈ L, c.Ok) (hl : L.length ≤ maxLen) :
    Calls Try.prog 17 #[.slice A L.length cap] w fun e w' => e = .returned (.bool b) ∧ Below w.heap.size w w' := h ▸ IsRecordOf_any L A cap w hr hok hl
theorem l20Record_is {L : List Event} {b : Bool} (h : recB L = b) (A : Option Addr) (cap : Nat) (w : World) (hr : Rd Event.enc 2 w.heap.size w A L) (hok : ∀ c ∈ L, c.Ok) (hl : L.length ≤ maxLen) :
    Calls Try.prog 54 #[.slice A L.length cap] w fun e w' => e = .returned (.bool b) ∧ Below w.heap.size w w' := h ▸ l20Record_any L A cap w hr hok hl
theorem IsRecordOf_spec (L : List Event) (A : Option Addr) (cap : Nat) (w : World) (hr : Rd Event.enc 2 w.heap.size w A L) (hok : ∀ c ∈ L, c.Ok) (hl : L.length ≤ maxLen) :
    Calls Try.prog 15 #[.slice A L.length cap] w fun e w' => e = .returned (.bool (recB L)) ∧ Below w.heap.size w w' := by
  go_enter Try.func15, Try.ntmps15
  go_wp2_with (go_at_call 54; refine (l20Record_any L A cap _ hr hok hl).mono ?_; rintro e w' ⟨rfl, hb⟩)
  go_ret
  exact ⟨rfl, hb⟩
end Go.Proofs.Ytmnepaedkilnoaa
