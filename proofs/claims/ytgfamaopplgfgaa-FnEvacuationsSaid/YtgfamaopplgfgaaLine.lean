/- Lines: whether supports are a line, and a short one; the program's functions and the reference's. Slices are as the reader gives them. -/
import Derived.Test.YtgfamaopplgfgaaStSupport
import Derived.Test.YtgfamaopplgfgaaWords
namespace Go.Proofs.Ytgfamaopplgfgaa
open Go Go.RowKit
set_option linter.unusedVariables false
def supB (c : Support) : Bool := inB c.at_ 0 3000 && inB c.height 0 2000
def supLt (d c : Support) : Bool := decide (d.at_ < c.at_)
def headB (L : List Support) : Bool := decide (2 ≤ L.length ∧ L.length ≤ 8) && (match L[0]?, L[L.length - 1]? with
  | some c, some d => decide (c.at_ = 0) && (c.station && d.station)
  | _, _ => false)
def lineB (L : List Support) : Bool := headB L && allAt (riseAt supB supLt L) L.length
theorem line_no {L : List Support} {k : Nat} (h : k < L.length) (hp : riseAt supB supLt L k = false) : lineB L = false := by simp [lineB, allAt_no h hp]
theorem line_yes {L : List Support} {k : Nat} (hd : headB L = true) (h : L.length ≤ k) (hp : ∀ j, j < k → riseAt supB supLt L j = true) : lineB L = true := by simp [lineB, hd, allAt_yes h hp]
theorem line_head {L : List Support} (h : headB L = false) : lineB L = false := by simp [lineB, h]

set_option maxHeartbeats 2000000 in
theorem IsLine_any (L : List Support) (A : Option Addr) (cap : Nat) (w : World) (hr : Rd Support.enc 3 w.heap.size w A L) (hok : ∀ c ∈ L, c.Ok) (hl : L.length ≤ maxLen) :
    Calls Try.prog 90 #[.slice A L.length cap] w fun e w' => e = .returned (.bool (lineB L)) ∧ Below w.heap.size w w' := by
  unfold maxLen at hl
  by_cases hn : 2 ≤ L.length ∧ L.length ≤ 8
  · obtain ⟨hn1, hn2⟩ := hn
    obtain ⟨b, o, rfl, hb, hc⟩ := Support.rd_at hr (by intro h; subst h; simp at hn1)
    clear hr
    have g0 := List.getElem?_eq_getElem (show 0 < L.length by omega)
    have gl := List.getElem?_eq_getElem (show L.length - 1 < L.length by omega)
    obtain ⟨f0, f1, f2⟩ := hc 0 _ g0
    obtain ⟨l0, l1, l2⟩ := hc (L.length - 1) _ gl
    have HH := hide (show headB L = (decide (L[0].at_ = 0) && (L[0].station && L[L.length - 1].station)) by simp [headB, g0, gl, hn1, hn2])
    generalize L[0] = p0 at *
    generalize L[L.length - 1] = pl at *
    simp only [Nat.zero_mul, Nat.add_zero] at f0 f1 f2
    clear g0 gl
    have hln1 : (2 : Int) ≤ (L.length : Int) := by omega
    have hln2 : (L.length : Int) ≤ 8 := by omega
    by_cases h0 : p0.at_ = 0
    rotate_left
    · have hb0 : (p0.at_ != 0) = true := by simpa using h0
      have HX := hide (line_head (L := L) (by rw [HH.out]; simp [h0]))
      go_enter Try.func90, Try.ntmps90
      go_wp2_with fail
      go_ret
      exact ⟨ret_bool HX.out.symm, Below.refl _ _⟩
    have hb0 : (p0.at_ != 0) = false := by simp [h0]
    cases h1 : p0.station
    · rw [h1] at f2
      have HX := hide (line_head (L := L) (by rw [HH.out]; simp [h1]))
      go_enter Try.func90, Try.ntmps90
      go_wp2_with fail
      go_ret
      exact ⟨ret_bool HX.out.symm, Below.refl _ _⟩
    rw [h1] at f2
    cases h2 : pl.station
    · rw [h2] at l2
      have HX := hide (line_head (L := L) (by rw [HH.out]; simp [h2]))
      go_enter Try.func90, Try.ntmps90
      go_wp2_with fail
      go_ret
      exact ⟨ret_bool HX.out.symm, Below.refl _ _⟩
    rw [h2] at l2
    have HD := hide (show headB L = true by rw [HH.out]; simp [h0, h1, h2])
    clear h0 h1 h2 HH
    go_enter Try.func90, Try.ntmps90
    go_wp2_with fail
    go_loopw [39] (fun i wr => ∃ k : Nat, k ≤ L.length ∧ i = .int .i64 k ∧ Hid (∀ j, j < k → riseAt supB supLt L j = true) ∧ Below w.heap.size w wr) (fun i _ => L.length - (intOf i).toNat)
    case atStart => exact ⟨0, Nat.zero_le _, rfl, hide (fun j hj => absurd hj (Nat.not_lt_zero j)), Below.refl _ _⟩
    case round =>
      obtain ⟨k, hk, rfl, hp, hbel⟩ := hrel
      by_cases hlt : k < L.length
      · have hget := List.getElem?_eq_getElem hlt
        obtain ⟨c0, c1, c2⟩ := hc k _ hget
        have hokc := hide (hok L[k] (List.getElem_mem hlt))
        generalize L[k] = c at *
        have HG := hide hget; clear hget
        replace c0 := below_cell hbel c0
        replace c1 := below_cell hbel c1
        replace c2 := below_cell hbel c2
        have E := Support.box_after wr c 100
        have hki : (k : Int) < (L.length : Int) := by omega
        cases h0 : inB c.at_ 0 3000
        · have HO := hide (show supB c = false by simp [supB, h0])
          go_wp2_with fail
          refine wp_region_after (by kernel_rfl) (by kernel_rfl) ?_
          repeat (go_big_quiet_step ((first | (go_at_call 61; exact Calls.after_same (within_is (by assumption) _)))))
          refine wpQuiet_nil ?_
          rintro _ ⟨⟨w1, hb1⟩, rfl⟩
          go_wp2_with fail
          go_ret
          exact ⟨ret_bool (line_no hlt (rise_bad HG.out HO.out)).symm, below_next hbel hb1 (Nat.le_refl _)⟩
        · have HZ0 := True.intro
          cases h1 : inB c.height 0 2000
          · have HO := hide (show supB c = false by simp [supB, h0, h1])
            go_wp2_with fail
            refine wp_region_after (by kernel_rfl) (by kernel_rfl) ?_
            repeat (go_big_quiet_step ((first | (go_at_call 61; exact Calls.after_same (within_is (by assumption) _)))))
            refine wpQuiet_nil ?_
            rintro _ ⟨⟨w1, hb1⟩, rfl⟩
            go_wp2_with fail
            go_ret
            exact ⟨ret_bool (line_no hlt (rise_bad HG.out HO.out)).symm, below_next hbel hb1 (Nat.le_refl _)⟩
          · have HZ1 := True.intro
            have HO := hide (show supB c = true by simp [supB, h0, h1])
            rcases Nat.eq_zero_or_pos k with rfl | hk0
            · have HZ := True.intro
              simp only [Nat.zero_mul, Nat.add_zero] at c0 c1 c2
              go_wp2_with fail
              refine wp_region_after (by kernel_rfl) (by kernel_rfl) ?_
              repeat (go_big_quiet_step ((first | (go_at_call 61; exact Calls.after_same (within_is (by assumption) _)))))
              refine wpQuiet_nil ?_
              rintro _ ⟨⟨w1, hb1⟩, rfl⟩
              go_wp2_with fail
              go_roundw
              case rel => exact ⟨0 + 1, by omega, by go_num, hide (upto_step hp.out (rise_first HG.out HO.out)), below_next hbel hb1 (Nat.le_refl _)⟩
              case measure => simp [intOf]; omega
            · have hgd := List.getElem?_eq_getElem (show k - 1 < L.length by omega)
              obtain ⟨p0, p1, p2⟩ := hc (k - 1) _ hgd
              generalize L[k - 1] = d at *
              have HD := hide hgd; clear hgd
              replace p0 := after_alloc (.cells #[.int .i64 c.at_, .int .i64 c.height, .bool c.station] 100) (below_cell hbel p0)
              replace p1 := after_alloc (.cells #[.int .i64 c.at_, .int .i64 c.height, .bool c.station] 100) (below_cell hbel p1)
              replace p2 := after_alloc (.cells #[.int .i64 c.at_, .int .i64 c.height, .bool c.station] 100) (below_cell hbel p2)
              have hk1 : (0 : Int) < (k : Int) := by omega
              cases hlow : supLt d c
              · have HL := hide hlow
                have hkey : ¬ d.at_ < c.at_ := by simpa [supLt] using hlow
                have hb0 : decide (c.at_ ≤ d.at_) = true := by simp; omega
                clear hlow
                go_wp2_with fail
                refine wp_region_after (by kernel_rfl) (by kernel_rfl) ?_
                repeat (go_big_quiet_step ((first | (go_at_call 61; exact Calls.after_same (within_is (by assumption) _)))))
                refine wpQuiet_nil ?_
                rintro _ ⟨⟨w1, hb1⟩, rfl⟩
                go_wp2_with fail
                go_ret
                exact ⟨ret_bool (line_no hlt (rise_low HG.out HD.out hk0 HL.out)).symm, below_next hbel hb1 (Nat.le_refl _)⟩
              · have HL := hide hlow
                have hkey : d.at_ < c.at_ := by simpa [supLt] using hlow
                have hb0 : decide (c.at_ ≤ d.at_) = false := by simp; omega
                clear hlow
                go_wp2_with fail
                refine wp_region_after (by kernel_rfl) (by kernel_rfl) ?_
                repeat (go_big_quiet_step ((first | (go_at_call 61; exact Calls.after_same (within_is (by assumption) _)))))
                refine wpQuiet_nil ?_
                rintro _ ⟨⟨w1, hb1⟩, rfl⟩
                go_wp2_with fail
                go_roundw
                case rel => exact ⟨k + 1, by omega, by go_num, hide (upto_step hp.out (rise_next HG.out HD.out HO.out HL.out)), below_next hbel hb1 (Nat.le_refl _)⟩
                case measure => simp [intOf]; omega
      · go_wp2_with fail
        go_ret
        exact ⟨ret_bool (line_yes HD.out (by omega) hp.out).symm, hbel⟩
  · have HX := hide (line_head (L := L) (by simp only [headB]; rw [decide_eq_false hn]; rfl))
    by_cases h2 : (L.length : Int) < 2
    · have h3 : (L.length : Int) < 2 := by omega
      go_enter Try.func90, Try.ntmps90
      go_wp2_with fail
      go_ret
      exact ⟨ret_bool HX.out.symm, Below.refl _ _⟩
    · have h3 : 8 < (L.length : Int) := by omega
      go_enter Try.func90, Try.ntmps90
      go_wp2_with fail
      go_ret
      exact ⟨ret_bool HX.out.symm, Below.refl _ _⟩

set_option maxHeartbeats 2000000 in
theorem l2Line_any (L : List Support) (A : Option Addr) (cap : Nat) (w : World) (hr : Rd Support.enc 3 w.heap.size w A L) (hok : ∀ c ∈ L, c.Ok) (hl : L.length ≤ maxLen) :
    Calls Try.prog 96 #[.slice A L.length cap] w fun e w' => e = .returned (.bool (lineB L)) ∧ Below w.heap.size w w' := by
  unfold maxLen at hl
  by_cases hn : 2 ≤ L.length ∧ L.length ≤ 8
  · obtain ⟨hn1, hn2⟩ := hn
    obtain ⟨b, o, rfl, hb, hc⟩ := Support.rd_at hr (by intro h; subst h; simp at hn1)
    clear hr
    have g0 := List.getElem?_eq_getElem (show 0 < L.length by omega)
    have gl := List.getElem?_eq_getElem (show L.length - 1 < L.length by omega)
    obtain ⟨f0, f1, f2⟩ := hc 0 _ g0
    obtain ⟨l0, l1, l2⟩ := hc (L.length - 1) _ gl
    have HH := hide (show headB L = (decide (L[0].at_ = 0) && (L[0].station && L[L.length - 1].station)) by simp [headB, g0, gl, hn1, hn2])
    generalize L[0] = p0 at *
    generalize L[L.length - 1] = pl at *
    simp only [Nat.zero_mul, Nat.add_zero] at f0 f1 f2
    clear g0 gl
    have hln1 : (2 : Int) ≤ (L.length : Int) := by omega
    have hln2 : (L.length : Int) ≤ 8 := by omega
    have hin : inB (L.length : Int) 2 8 = true := inB_iff.2 ⟨hln1, hln2⟩
    by_cases h0 : p0.at_ = 0
    rotate_left
    · have hb0 : (p0.at_ != 0) = true := by simpa using h0
      have HX := hide (line_head (L := L) (by rw [HH.out]; simp [h0]))
      go_enter Try.func96, Try.ntmps96
      go_wp2_with (go_at_call 73; refine (l1In_is hin _).mono ?_; rintro e w' ⟨rfl, rfl⟩)
      go_ret
      exact ⟨ret_bool HX.out.symm, Below.refl _ _⟩
    have hb0 : (p0.at_ != 0) = false := by simp [h0]
    cases h1 : p0.station
    · rw [h1] at f2
      have HX := hide (line_head (L := L) (by rw [HH.out]; simp [h1]))
      go_enter Try.func96, Try.ntmps96
      go_wp2_with (go_at_call 73; refine (l1In_is hin _).mono ?_; rintro e w' ⟨rfl, rfl⟩)
      go_ret
      exact ⟨ret_bool HX.out.symm, Below.refl _ _⟩
    rw [h1] at f2
    cases h2 : pl.station
    · rw [h2] at l2
      have HX := hide (line_head (L := L) (by rw [HH.out]; simp [h2]))
      go_enter Try.func96, Try.ntmps96
      go_wp2_with (go_at_call 73; refine (l1In_is hin _).mono ?_; rintro e w' ⟨rfl, rfl⟩)
      go_ret
      exact ⟨ret_bool HX.out.symm, Below.refl _ _⟩
    rw [h2] at l2
    have HD := hide (show headB L = true by rw [HH.out]; simp [h0, h1, h2])
    clear h0 h1 h2 HH
    go_enter Try.func96, Try.ntmps96
    go_wp2_with (go_at_call 73; refine (l1In_is hin _).mono ?_; rintro e w' ⟨rfl, rfl⟩)
    go_loopw [4] (fun i wr => ∃ k : Nat, k ≤ L.length ∧ i = .int .i64 k ∧ Hid (∀ j, j < k → riseAt supB supLt L j = true) ∧ Below w.heap.size w wr) (fun i _ => L.length - (intOf i).toNat)
    case atStart => exact ⟨0, Nat.zero_le _, rfl, hide (fun j hj => absurd hj (Nat.not_lt_zero j)), Below.refl _ _⟩
    case round =>
      obtain ⟨k, hk, rfl, hp, hbel⟩ := hrel
      by_cases hlt : k < L.length
      · have hget := List.getElem?_eq_getElem hlt
        obtain ⟨c0, c1, c2⟩ := hc k _ hget
        have hokc := hide (hok L[k] (List.getElem_mem hlt))
        generalize L[k] = c at *
        have HG := hide hget; clear hget
        replace c0 := after_cell (below_cell hbel c0)
        replace c1 := after_cell (below_cell hbel c1)
        replace c2 := after_cell (below_cell hbel c2)
        have hki : (k : Int) < (L.length : Int) := by omega
        cases h0 : inB c.at_ 0 3000
        · have HO := hide (show supB c = false by simp [supB, h0])
          go_wp2_with fail
          refine wp_region_after (by kernel_rfl) (by kernel_rfl) ?_
          repeat (go_big_quiet_step ((first | (go_at_call 73; exact Calls.after_same (l1In_is (by assumption) _)))))
          refine wpQuiet_nil ?_
          rintro _ ⟨⟨w1, hb1⟩, rfl⟩
          go_wp2_with fail
          go_ret
          exact ⟨ret_bool (line_no hlt (rise_bad HG.out HO.out)).symm, below_step hbel hb1 (Nat.le_refl _)⟩
        · have HZ0 := True.intro
          cases h1 : inB c.height 0 2000
          · have HO := hide (show supB c = false by simp [supB, h0, h1])
            go_wp2_with fail
            refine wp_region_after (by kernel_rfl) (by kernel_rfl) ?_
            repeat (go_big_quiet_step ((first | (go_at_call 73; exact Calls.after_same (l1In_is (by assumption) _)))))
            refine wpQuiet_nil ?_
            rintro _ ⟨⟨w1, hb1⟩, rfl⟩
            go_wp2_with fail
            go_ret
            exact ⟨ret_bool (line_no hlt (rise_bad HG.out HO.out)).symm, below_step hbel hb1 (Nat.le_refl _)⟩
          · have HZ1 := True.intro
            have HO := hide (show supB c = true by simp [supB, h0, h1])
            rcases Nat.eq_zero_or_pos k with rfl | hk0
            · have HZ := True.intro
              simp only [Nat.zero_mul, Nat.add_zero] at c0 c1 c2
              go_wp2_with fail
              refine wp_region_after (by kernel_rfl) (by kernel_rfl) ?_
              repeat (go_big_quiet_step ((first | (go_at_call 73; exact Calls.after_same (l1In_is (by assumption) _)))))
              refine wpQuiet_nil ?_
              rintro _ ⟨⟨w1, hb1⟩, rfl⟩
              go_wp2_with fail
              go_roundw
              case rel => exact ⟨0 + 1, by omega, by go_num, hide (upto_step hp.out (rise_first HG.out HO.out)), below_step hbel hb1 (Nat.le_refl _)⟩
              case measure => simp [intOf]; omega
            · have hgd := List.getElem?_eq_getElem (show k - 1 < L.length by omega)
              obtain ⟨p0, p1, p2⟩ := hc (k - 1) _ hgd
              generalize L[k - 1] = d at *
              have HD := hide hgd; clear hgd
              replace p0 := after_cell (below_cell hbel p0)
              replace p1 := after_cell (below_cell hbel p1)
              replace p2 := after_cell (below_cell hbel p2)
              have hk1 : (0 : Int) < (k : Int) := by omega
              cases hlow : supLt d c
              · have HL := hide hlow
                have hkey : ¬ d.at_ < c.at_ := by simpa [supLt] using hlow
                have hb0 : decide (c.at_ ≤ d.at_) = true := by simp; omega
                clear hlow
                go_wp2_with fail
                refine wp_region_after (by kernel_rfl) (by kernel_rfl) ?_
                repeat (go_big_quiet_step ((first | (go_at_call 73; exact Calls.after_same (l1In_is (by assumption) _)))))
                refine wpQuiet_nil ?_
                rintro _ ⟨⟨w1, hb1⟩, rfl⟩
                go_wp2_with fail
                go_ret
                exact ⟨ret_bool (line_no hlt (rise_low HG.out HD.out hk0 HL.out)).symm, below_step hbel hb1 (Nat.le_refl _)⟩
              · have HL := hide hlow
                have hkey : d.at_ < c.at_ := by simpa [supLt] using hlow
                have hb0 : decide (c.at_ ≤ d.at_) = false := by simp; omega
                clear hlow
                go_wp2_with fail
                refine wp_region_after (by kernel_rfl) (by kernel_rfl) ?_
                repeat (go_big_quiet_step ((first | (go_at_call 73; exact Calls.after_same (l1In_is (by assumption) _)))))
                refine wpQuiet_nil ?_
                rintro _ ⟨⟨w1, hb1⟩, rfl⟩
                go_wp2_with fail
                go_roundw
                case rel => exact ⟨k + 1, by omega, by go_num, hide (upto_step hp.out (rise_next HG.out HD.out HO.out HL.out)), below_step hbel hb1 (Nat.le_refl _)⟩
                case measure => simp [intOf]; omega
      · go_wp2_with fail
        go_ret
        exact ⟨ret_bool (line_yes HD.out (by omega) hp.out).symm, hbel⟩
  · have HX := hide (line_head (L := L) (by simp only [headB]; rw [decide_eq_false hn]; rfl))
    have hin : inB (L.length : Int) 2 8 = false := by cases hh : inB (L.length : Int) 2 8; rfl; have := inB_iff.1 hh; omega
    by_cases h2 : (L.length : Int) < 2
    · have h3 : (L.length : Int) < 2 := by omega
      go_enter Try.func96, Try.ntmps96
      go_wp2_with (go_at_call 73; refine (l1In_is hin _).mono ?_; rintro e w' ⟨rfl, rfl⟩)
      go_ret
      exact ⟨ret_bool HX.out.symm, Below.refl _ _⟩
    · have h3 : 8 < (L.length : Int) := by omega
      go_enter Try.func96, Try.ntmps96
      go_wp2_with (go_at_call 73; refine (l1In_is hin _).mono ?_; rintro e w' ⟨rfl, rfl⟩)
      go_ret
      exact ⟨ret_bool HX.out.symm, Below.refl _ _⟩

theorem IsLine_is {L : List Support} {b : Bool} (h : lineB L = b) (A : Option Addr) (cap : Nat) (w : World) (hr : Rd Support.enc 3 w.heap.size w A L) (hok : ∀ c ∈ L, c.Ok) (hl : L.length ≤ maxLen) :
    Calls Try.prog 90 #[.slice A L.length cap] w fun e w' => e = .returned (.bool b) ∧ Below w.heap.size w w' := h ▸ IsLine_any L A cap w hr hok hl
theorem l2Line_is {L : List Support} {b : Bool} (h : lineB L = b) (A : Option Addr) (cap : Nat) (w : World) (hr : Rd Support.enc 3 w.heap.size w A L) (hok : ∀ c ∈ L, c.Ok) (hl : L.length ≤ maxLen) :
    Calls Try.prog 96 #[.slice A L.length cap] w fun e w' => e = .returned (.bool b) ∧ Below w.heap.size w w' := h ▸ l2Line_any L A cap w hr hok hl
def shortB (L : List Support) : Bool := lineB L && decide (L.length ≤ 7)
theorem lineB_len {L : List Support} (h : lineB L = true) : 2 ≤ L.length ∧ L.length ≤ 8 := by
  simp only [lineB, headB, Bool.and_eq_true, decide_eq_true_eq] at h; exact h.1.1
theorem shortB_len {L : List Support} (h : shortB L = true) : 2 ≤ L.length ∧ L.length ≤ 7 := by
  simp only [shortB, Bool.and_eq_true, decide_eq_true_eq] at h
  have := lineB_len h.1
  omega
theorem lineB_at {L : List Support} (h : lineB L = true) {k : Nat} {c : Support} (hk : L[k]? = some c) : 0 ≤ c.at_ ∧ c.at_ ≤ 3000 := by
  simp only [lineB, Bool.and_eq_true] at h
  have h2 := allAt_at h.2 (List.getElem?_eq_some_iff.1 hk).1
  simp only [riseAt, hk, Bool.and_eq_true, supB, inB_iff] at h2
  exact h2.1.1
theorem shortB_at {L : List Support} (h : shortB L = true) {k : Nat} {c : Support} (hk : L[k]? = some c) : 0 ≤ c.at_ ∧ c.at_ ≤ 3000 := by
  simp only [shortB, Bool.and_eq_true] at h
  exact lineB_at h.1 hk
theorem isShortLine_any (L : List Support) (A : Option Addr) (cap : Nat) (w : World) (hr : Rd Support.enc 3 w.heap.size w A L) (hok : ∀ c ∈ L, c.Ok) (hl : L.length ≤ maxLen) :
    Calls Try.prog 60 #[.slice A L.length cap] w fun e w' => e = .returned (.bool (shortB L)) ∧ Below w.heap.size w w' := by
  have hl' := hide hl
  unfold maxLen at hl
  cases h : lineB L
  · have HS := hide (show shortB L = false by simp [shortB, h])
    go_enter Try.func60, Try.ntmps60
    go_wp2_with (go_at_call 90; refine (IsLine_is h _ _ _ hr hok hl'.out).mono ?_; rintro e w1 ⟨rfl, hb1⟩)
    go_ret
    exact ⟨ret_bool HS.out.symm, hb1⟩
  · have hll := lineB_len h
    by_cases h7 : L.length ≤ 7
    · have HS := hide (show shortB L = true by simp [shortB, h, h7])
      have h8 : (L.length : Int) ≤ 7 := by omega
      go_enter Try.func60, Try.ntmps60
      go_wp2_with (go_at_call 90; refine (IsLine_is h _ _ _ hr hok hl'.out).mono ?_; rintro e w1 ⟨rfl, hb1⟩)
      go_ret
      exact ⟨ret_bool (by rw [HS.out] <;> first | (simp; done) | (simp; omega)), hb1⟩
    · have HS := hide (show shortB L = false by simp [shortB, h7])
      have h8 : 7 < (L.length : Int) := by omega
      go_enter Try.func60, Try.ntmps60
      go_wp2_with (go_at_call 90; refine (IsLine_is h _ _ _ hr hok hl'.out).mono ?_; rintro e w1 ⟨rfl, hb1⟩)
      go_ret
      exact ⟨ret_bool (by rw [HS.out] <;> first | (simp; done) | (simp; omega)), hb1⟩
theorem isShortLine_is {L : List Support} {b : Bool} (h : shortB L = b) (A : Option Addr) (cap : Nat) (w : World) (hr : Rd Support.enc 3 w.heap.size w A L) (hok : ∀ c ∈ L, c.Ok) (hl : L.length ≤ maxLen) :
    Calls Try.prog 60 #[.slice A L.length cap] w fun e w' => e = .returned (.bool b) ∧ Below w.heap.size w w' := h ▸ isShortLine_any L A cap w hr hok hl
theorem l19Line_any (L : List Support) (A : Option Addr) (cap : Nat) (w : World) (hr : Rd Support.enc 3 w.heap.size w A L) (hok : ∀ c ∈ L, c.Ok) (hl : L.length ≤ maxLen) :
    Calls Try.prog 92 #[.slice A L.length cap] w fun e w' => e = .returned (.bool (shortB L)) ∧ Below w.heap.size w w' := by
  have hl' := hide hl
  unfold maxLen at hl
  cases h : lineB L
  · have HS := hide (show shortB L = false by simp [shortB, h])
    go_enter Try.func92, Try.ntmps92
    go_wp2_with (go_at_call 96; refine (l2Line_is h _ _ _ hr hok hl'.out).mono ?_; rintro e w1 ⟨rfl, hb1⟩)
    go_ret
    exact ⟨ret_bool HS.out.symm, hb1⟩
  · have hll := lineB_len h
    by_cases h7 : L.length ≤ 7
    · have HS := hide (show shortB L = true by simp [shortB, h, h7])
      have h8 : (L.length : Int) ≤ 7 := by omega
      go_enter Try.func92, Try.ntmps92
      go_wp2_with (go_at_call 96; refine (l2Line_is h _ _ _ hr hok hl'.out).mono ?_; rintro e w1 ⟨rfl, hb1⟩)
      go_ret
      exact ⟨ret_bool (by rw [HS.out] <;> first | (simp; done) | (simp; omega)), hb1⟩
    · have HS := hide (show shortB L = false by simp [shortB, h7])
      have h8 : 7 < (L.length : Int) := by omega
      go_enter Try.func92, Try.ntmps92
      go_wp2_with (go_at_call 96; refine (l2Line_is h _ _ _ hr hok hl'.out).mono ?_; rintro e w1 ⟨rfl, hb1⟩)
      go_ret
      exact ⟨ret_bool (by rw [HS.out] <;> first | (simp; done) | (simp; omega)), hb1⟩
theorem l19Line_is {L : List Support} {b : Bool} (h : shortB L = b) (A : Option Addr) (cap : Nat) (w : World) (hr : Rd Support.enc 3 w.heap.size w A L) (hok : ∀ c ∈ L, c.Ok) (hl : L.length ≤ maxLen) :
    Calls Try.prog 92 #[.slice A L.length cap] w fun e w' => e = .returned (.bool b) ∧ Below w.heap.size w w' := h ▸ l19Line_any L A cap w hr hok hl
end Go.Proofs.Ytgfamaopplgfgaa
