/- Staff: whether workers are staff; the program's function and the reference's. Slices are as the reader gives them. -/
import Derived.Test.YtfaicjlpncidgaaStWorker
import Derived.Test.YtfaicjlpncidgaaStShift
namespace Go.Proofs.Ytfaicjlpncidgaa
open Go Go.RowKit
def workB (c : Worker) : Bool := inB c.id 1 99 && (wordB c.name && (inB c.duties 1 7 && inB c.hours 0 60))
def workLt (d c : Worker) : Bool := decide (d.id < c.id)
abbrev staffB (L : List Worker) : Bool := riseB workB workLt 8 L
set_option maxHeartbeats 2000000 in
theorem AreStaff_any (L : List Worker) (A : Option Addr) (cap : Nat) (w : World) (hr : Rd Worker.enc 4 w.heap.size w A L) (hok : ∀ c ∈ L, c.Ok) (hl : L.length ≤ maxLen) :
    Calls Try.prog 17 #[.slice A L.length cap] w fun e w' => e = .returned (.bool (riseB workB workLt 8 L)) ∧ Below w.heap.size w w' := by
  unfold maxLen at hl
  by_cases hL : L = []
  · subst hL
    go_enter Try.func17, Try.ntmps17
    go_wp2_with fail
    go_loop [7] (fun i => i = .int .i64 0) (fun _ => 0)
    case atStart => rfl
    case round =>
      obtain rfl := hrel
      go_wp2_with fail
      go_ret
      exact ⟨rfl, Below.refl _ _⟩
  · obtain ⟨b, o, rfl, hb, hc⟩ := Worker.rd_at hr hL
    clear hr
    go_enter Try.func17, Try.ntmps17
    go_wp2_with fail
    go_loopw [7] (fun i wr => ∃ k : Nat, k ≤ L.length ∧ i = .int .i64 k ∧ Hid (∀ j, j < k → riseAt workB workLt L j = true) ∧ Below w.heap.size w wr) (fun i _ => L.length - (intOf i).toNat)
    case atStart => exact ⟨0, Nat.zero_le _, rfl, hide (fun j hj => absurd hj (Nat.not_lt_zero j)), Below.refl _ _⟩
    case round =>
      obtain ⟨k, hk, rfl, hp, hbel⟩ := hrel
      by_cases hlt : k < L.length
      · have hget := List.getElem?_eq_getElem hlt
        obtain ⟨c0, c1, c2, c3⟩ := hc k _ hget
        have hokc := hide (hok L[k] (List.getElem_mem hlt))
        generalize L[k] = c at *
        have HG := hide hget; clear hget
        replace c0 := below_cell hbel c0
        replace c1 := below_cell hbel c1
        replace c2 := below_cell hbel c2
        replace c3 := below_cell hbel c3
        have E := Worker.box_after wr c 75
        have hki : (k : Int) < (L.length : Int) := by omega
        cases h0 : inB c.id 1 99
        · have HO := hide (show workB c = false by simp [workB, h0])
          go_wp2_with fail
          refine wp_region_after (by kernel_rfl) (by kernel_rfl) ?_
          repeat (go_big_quiet_step ((first | (go_at_call 64; exact Calls.after_same (within_is (by assumption) _)) | (go_at_call 65; exact Calls.after_same (isWord_is (by assumption) _ hokc.out)))))
          refine wpQuiet_nil ?_
          rintro _ ⟨⟨w1, hb1⟩, rfl⟩
          go_wp2_with fail
          go_ret
          exact ⟨ret_bool (riseB_no hlt (rise_bad HG.out HO.out)).symm, below_next hbel hb1 (Nat.le_refl _)⟩
        · have HZ0 := True.intro
          cases h1 : wordB c.name
          · have HO := hide (show workB c = false by simp [workB, h0, h1])
            go_wp2_with fail
            refine wp_region_after (by kernel_rfl) (by kernel_rfl) ?_
            repeat (go_big_quiet_step ((first | (go_at_call 64; exact Calls.after_same (within_is (by assumption) _)) | (go_at_call 65; exact Calls.after_same (isWord_is (by assumption) _ hokc.out)))))
            refine wpQuiet_nil ?_
            rintro _ ⟨⟨w1, hb1⟩, rfl⟩
            go_wp2_with fail
            go_ret
            exact ⟨ret_bool (riseB_no hlt (rise_bad HG.out HO.out)).symm, below_next hbel hb1 (Nat.le_refl _)⟩
          · have HZ1 := True.intro
            cases h2 : inB c.duties 1 7
            · have HO := hide (show workB c = false by simp [workB, h0, h1, h2])
              go_wp2_with fail
              refine wp_region_after (by kernel_rfl) (by kernel_rfl) ?_
              repeat (go_big_quiet_step ((first | (go_at_call 64; exact Calls.after_same (within_is (by assumption) _)) | (go_at_call 65; exact Calls.after_same (isWord_is (by assumption) _ hokc.out)))))
              refine wpQuiet_nil ?_
              rintro _ ⟨⟨w1, hb1⟩, rfl⟩
              go_wp2_with fail
              go_ret
              exact ⟨ret_bool (riseB_no hlt (rise_bad HG.out HO.out)).symm, below_next hbel hb1 (Nat.le_refl _)⟩
            · have HZ2 := True.intro
              cases h3 : inB c.hours 0 60
              · have HO := hide (show workB c = false by simp [workB, h0, h1, h2, h3])
                go_wp2_with fail
                refine wp_region_after (by kernel_rfl) (by kernel_rfl) ?_
                repeat (go_big_quiet_step ((first | (go_at_call 64; exact Calls.after_same (within_is (by assumption) _)) | (go_at_call 65; exact Calls.after_same (isWord_is (by assumption) _ hokc.out)))))
                refine wpQuiet_nil ?_
                rintro _ ⟨⟨w1, hb1⟩, rfl⟩
                go_wp2_with fail
                go_ret
                exact ⟨ret_bool (riseB_no hlt (rise_bad HG.out HO.out)).symm, below_next hbel hb1 (Nat.le_refl _)⟩
              · have HZ3 := True.intro
                have HO := hide (show workB c = true by simp [workB, h0, h1, h2, h3])
                rcases Nat.eq_zero_or_pos k with rfl | hk0
                · have HZ := True.intro
                  simp only [Nat.zero_mul, Nat.add_zero] at c0 c1 c2 c3
                  go_wp2_with fail
                  refine wp_region_after (by kernel_rfl) (by kernel_rfl) ?_
                  repeat (go_big_quiet_step ((first | (go_at_call 64; exact Calls.after_same (within_is (by assumption) _)) | (go_at_call 65; exact Calls.after_same (isWord_is (by assumption) _ hokc.out)))))
                  refine wpQuiet_nil ?_
                  rintro _ ⟨⟨w1, hb1⟩, rfl⟩
                  go_wp2_with fail
                  go_roundw
                  case rel => exact ⟨0 + 1, by omega, by go_num, hide (upto_step hp.out (rise_first HG.out HO.out)), below_next hbel hb1 (Nat.le_refl _)⟩
                  case measure => simp [intOf]; omega
                · have hgd := List.getElem?_eq_getElem (show k - 1 < L.length by omega)
                  obtain ⟨p0, p1, p2, p3⟩ := hc (k - 1) _ hgd
                  generalize L[k - 1] = d at *
                  have HD := hide hgd; clear hgd
                  replace p0 := after_alloc (.cells #[.int .i64 c.id, .string c.name, .int .i64 c.duties, .int .i64 c.hours] 75) (below_cell hbel p0)
                  replace p1 := after_alloc (.cells #[.int .i64 c.id, .string c.name, .int .i64 c.duties, .int .i64 c.hours] 75) (below_cell hbel p1)
                  replace p2 := after_alloc (.cells #[.int .i64 c.id, .string c.name, .int .i64 c.duties, .int .i64 c.hours] 75) (below_cell hbel p2)
                  replace p3 := after_alloc (.cells #[.int .i64 c.id, .string c.name, .int .i64 c.duties, .int .i64 c.hours] 75) (below_cell hbel p3)
                  have hk1 : (0 : Int) < (k : Int) := by omega
                  cases hlow : workLt d c
                  · have HL := hide hlow
                    have hkey : ¬ d.id < c.id := by simpa [workLt] using hlow
                    have hb0 : decide (c.id ≤ d.id) = true := by simp; omega
                    clear hlow
                    go_wp2_with fail
                    refine wp_region_after (by kernel_rfl) (by kernel_rfl) ?_
                    repeat (go_big_quiet_step ((first | (go_at_call 64; exact Calls.after_same (within_is (by assumption) _)) | (go_at_call 65; exact Calls.after_same (isWord_is (by assumption) _ hokc.out)))))
                    refine wpQuiet_nil ?_
                    rintro _ ⟨⟨w1, hb1⟩, rfl⟩
                    go_wp2_with fail
                    go_ret
                    exact ⟨ret_bool (riseB_no hlt (rise_low HG.out HD.out hk0 HL.out)).symm, below_next hbel hb1 (Nat.le_refl _)⟩
                  · have HL := hide hlow
                    have hkey : d.id < c.id := by simpa [workLt] using hlow
                    have hb0 : decide (c.id ≤ d.id) = false := by simp; omega
                    clear hlow
                    go_wp2_with fail
                    refine wp_region_after (by kernel_rfl) (by kernel_rfl) ?_
                    repeat (go_big_quiet_step ((first | (go_at_call 64; exact Calls.after_same (within_is (by assumption) _)) | (go_at_call 65; exact Calls.after_same (isWord_is (by assumption) _ hokc.out)))))
                    refine wpQuiet_nil ?_
                    rintro _ ⟨⟨w1, hb1⟩, rfl⟩
                    go_wp2_with fail
                    go_roundw
                    case rel => exact ⟨k + 1, by omega, by go_num, hide (upto_step hp.out (rise_next HG.out HD.out HO.out HL.out)), below_next hbel hb1 (Nat.le_refl _)⟩
                    case measure => simp [intOf]; omega
      · go_wp2_with fail
        go_ret
        exact ⟨ret_bool (by rw [riseB_all (by omega) hp.out]; simp; omega), hbel⟩

set_option maxHeartbeats 2000000 in
theorem l22Staff_any (L : List Worker) (A : Option Addr) (cap : Nat) (w : World) (hr : Rd Worker.enc 4 w.heap.size w A L) (hok : ∀ c ∈ L, c.Ok) (hl : L.length ≤ maxLen) :
    Calls Try.prog 62 #[.slice A L.length cap] w fun e w' => e = .returned (.bool (riseB workB workLt 8 L)) ∧ Below w.heap.size w w' := by
  unfold maxLen at hl
  by_cases hL : L = []
  · subst hL
    go_enter Try.func62, Try.ntmps62
    go_wp2_with fail
    go_loop [3] (fun i => i = .int .i64 0) (fun _ => 0)
    case atStart => rfl
    case round =>
      obtain rfl := hrel
      go_wp2_with fail
      go_ret
      exact ⟨rfl, Below.refl _ _⟩
  · obtain ⟨b, o, rfl, hb, hc⟩ := Worker.rd_at hr hL
    clear hr
    go_enter Try.func62, Try.ntmps62
    go_wp2_with fail
    go_loopw [3] (fun i wr => ∃ k : Nat, k ≤ L.length ∧ i = .int .i64 k ∧ Hid (∀ j, j < k → riseAt workB workLt L j = true) ∧ Below w.heap.size w wr) (fun i _ => L.length - (intOf i).toNat)
    case atStart => exact ⟨0, Nat.zero_le _, rfl, hide (fun j hj => absurd hj (Nat.not_lt_zero j)), Below.refl _ _⟩
    case round =>
      obtain ⟨k, hk, rfl, hp, hbel⟩ := hrel
      by_cases hlt : k < L.length
      · have hget := List.getElem?_eq_getElem hlt
        obtain ⟨c0, c1, c2, c3⟩ := hc k _ hget
        have hokc := hide (hok L[k] (List.getElem_mem hlt))
        generalize L[k] = c at *
        have HG := hide hget; clear hget
        replace c0 := below_cell hbel c0
        replace c1 := below_cell hbel c1
        replace c2 := below_cell hbel c2
        replace c3 := below_cell hbel c3
        have E := Worker.box_after wr c 75
        have hki : (k : Int) < (L.length : Int) := by omega
        cases h0 : inB c.id 1 99
        · have HO := hide (show workB c = false by simp [workB, h0])
          go_wp2_with fail
          refine wp_region_after (by kernel_rfl) (by kernel_rfl) ?_
          repeat (go_big_quiet_step ((first | (go_at_call 81; exact Calls.after_same (l1In_is (by assumption) _)) | (go_at_call 98; exact Calls.after_same (l2Word_is (by assumption) _ hokc.out)))))
          refine wpQuiet_nil ?_
          rintro _ ⟨⟨w1, hb1⟩, rfl⟩
          go_wp2_with fail
          go_ret
          exact ⟨ret_bool (riseB_no hlt (rise_bad HG.out HO.out)).symm, below_next hbel hb1 (Nat.le_refl _)⟩
        · have HZ0 := True.intro
          cases h1 : wordB c.name
          · have HO := hide (show workB c = false by simp [workB, h0, h1])
            go_wp2_with fail
            refine wp_region_after (by kernel_rfl) (by kernel_rfl) ?_
            repeat (go_big_quiet_step ((first | (go_at_call 81; exact Calls.after_same (l1In_is (by assumption) _)) | (go_at_call 98; exact Calls.after_same (l2Word_is (by assumption) _ hokc.out)))))
            refine wpQuiet_nil ?_
            rintro _ ⟨⟨w1, hb1⟩, rfl⟩
            go_wp2_with fail
            go_ret
            exact ⟨ret_bool (riseB_no hlt (rise_bad HG.out HO.out)).symm, below_next hbel hb1 (Nat.le_refl _)⟩
          · have HZ1 := True.intro
            cases h2 : inB c.duties 1 7
            · have HO := hide (show workB c = false by simp [workB, h0, h1, h2])
              go_wp2_with fail
              refine wp_region_after (by kernel_rfl) (by kernel_rfl) ?_
              repeat (go_big_quiet_step ((first | (go_at_call 81; exact Calls.after_same (l1In_is (by assumption) _)) | (go_at_call 98; exact Calls.after_same (l2Word_is (by assumption) _ hokc.out)))))
              refine wpQuiet_nil ?_
              rintro _ ⟨⟨w1, hb1⟩, rfl⟩
              go_wp2_with fail
              go_ret
              exact ⟨ret_bool (riseB_no hlt (rise_bad HG.out HO.out)).symm, below_next hbel hb1 (Nat.le_refl _)⟩
            · have HZ2 := True.intro
              cases h3 : inB c.hours 0 60
              · have HO := hide (show workB c = false by simp [workB, h0, h1, h2, h3])
                go_wp2_with fail
                refine wp_region_after (by kernel_rfl) (by kernel_rfl) ?_
                repeat (go_big_quiet_step ((first | (go_at_call 81; exact Calls.after_same (l1In_is (by assumption) _)) | (go_at_call 98; exact Calls.after_same (l2Word_is (by assumption) _ hokc.out)))))
                refine wpQuiet_nil ?_
                rintro _ ⟨⟨w1, hb1⟩, rfl⟩
                go_wp2_with fail
                go_ret
                exact ⟨ret_bool (riseB_no hlt (rise_bad HG.out HO.out)).symm, below_next hbel hb1 (Nat.le_refl _)⟩
              · have HZ3 := True.intro
                have HO := hide (show workB c = true by simp [workB, h0, h1, h2, h3])
                rcases Nat.eq_zero_or_pos k with rfl | hk0
                · have HZ := True.intro
                  simp only [Nat.zero_mul, Nat.add_zero] at c0 c1 c2 c3
                  go_wp2_with fail
                  refine wp_region_after (by kernel_rfl) (by kernel_rfl) ?_
                  repeat (go_big_quiet_step ((first | (go_at_call 81; exact Calls.after_same (l1In_is (by assumption) _)) | (go_at_call 98; exact Calls.after_same (l2Word_is (by assumption) _ hokc.out)))))
                  refine wpQuiet_nil ?_
                  rintro _ ⟨⟨w1, hb1⟩, rfl⟩
                  go_wp2_with fail
                  go_roundw
                  case rel => exact ⟨0 + 1, by omega, by go_num, hide (upto_step hp.out (rise_first HG.out HO.out)), below_next hbel hb1 (Nat.le_refl _)⟩
                  case measure => simp [intOf]; omega
                · have hgd := List.getElem?_eq_getElem (show k - 1 < L.length by omega)
                  obtain ⟨p0, p1, p2, p3⟩ := hc (k - 1) _ hgd
                  generalize L[k - 1] = d at *
                  have HD := hide hgd; clear hgd
                  replace p0 := after_alloc (.cells #[.int .i64 c.id, .string c.name, .int .i64 c.duties, .int .i64 c.hours] 75) (below_cell hbel p0)
                  replace p1 := after_alloc (.cells #[.int .i64 c.id, .string c.name, .int .i64 c.duties, .int .i64 c.hours] 75) (below_cell hbel p1)
                  replace p2 := after_alloc (.cells #[.int .i64 c.id, .string c.name, .int .i64 c.duties, .int .i64 c.hours] 75) (below_cell hbel p2)
                  replace p3 := after_alloc (.cells #[.int .i64 c.id, .string c.name, .int .i64 c.duties, .int .i64 c.hours] 75) (below_cell hbel p3)
                  have hk1 : (0 : Int) < (k : Int) := by omega
                  cases hlow : workLt d c
                  · have HL := hide hlow
                    have hkey : ¬ d.id < c.id := by simpa [workLt] using hlow
                    have hb0 : decide (c.id ≤ d.id) = true := by simp; omega
                    clear hlow
                    go_wp2_with fail
                    refine wp_region_after (by kernel_rfl) (by kernel_rfl) ?_
                    repeat (go_big_quiet_step ((first | (go_at_call 81; exact Calls.after_same (l1In_is (by assumption) _)) | (go_at_call 98; exact Calls.after_same (l2Word_is (by assumption) _ hokc.out)))))
                    refine wpQuiet_nil ?_
                    rintro _ ⟨⟨w1, hb1⟩, rfl⟩
                    go_wp2_with fail
                    go_ret
                    exact ⟨ret_bool (riseB_no hlt (rise_low HG.out HD.out hk0 HL.out)).symm, below_next hbel hb1 (Nat.le_refl _)⟩
                  · have HL := hide hlow
                    have hkey : d.id < c.id := by simpa [workLt] using hlow
                    have hb0 : decide (c.id ≤ d.id) = false := by simp; omega
                    clear hlow
                    go_wp2_with fail
                    refine wp_region_after (by kernel_rfl) (by kernel_rfl) ?_
                    repeat (go_big_quiet_step ((first | (go_at_call 81; exact Calls.after_same (l1In_is (by assumption) _)) | (go_at_call 98; exact Calls.after_same (l2Word_is (by assumption) _ hokc.out)))))
                    refine wpQuiet_nil ?_
                    rintro _ ⟨⟨w1, hb1⟩, rfl⟩
                    go_wp2_with fail
                    go_roundw
                    case rel => exact ⟨k + 1, by omega, by go_num, hide (upto_step hp.out (rise_next HG.out HD.out HO.out HL.out)), below_next hbel hb1 (Nat.le_refl _)⟩
                    case measure => simp [intOf]; omega
      · go_wp2_with fail
        go_ret
        exact ⟨ret_bool (by rw [riseB_all (by omega) hp.out]; simp; omega), hbel⟩

theorem AreStaff_spec (L : List Worker) (A : Option Addr) (cap : Nat) (w : World) (hr : Rd Worker.enc 4 w.heap.size w A L) (hok : ∀ c ∈ L, c.Ok) (hl : L.length ≤ maxLen) :
    Calls Try.prog 15 #[.slice A L.length cap] w fun e w' => e = .returned (.bool (riseB workB workLt 8 L)) ∧ Below w.heap.size w w' := by
  go_enter Try.func15, Try.ntmps15
  go_wp2_with (go_at_call 62; refine (l22Staff_any L A cap _ hr hok hl).mono ?_; rintro e w' ⟨rfl, hb⟩)
  go_ret
  exact ⟨rfl, hb⟩
end Go.Proofs.Ytfaicjlpncidgaa
