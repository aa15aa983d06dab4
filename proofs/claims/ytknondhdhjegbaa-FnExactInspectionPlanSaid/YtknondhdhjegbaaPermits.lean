/- Permits: one condition, conditions, the last day on which one is met; the program's functions and the reference's. Slices are as the reader gives them, strings as long as strings may be. -/
import Derived.Test.YtknondhdhjegbaaStCondition
namespace Go.Proofs.Ytknondhdhjegbaa
open Go Go.RowKit

def condB (c : Condition) : Bool := inB c.number 1 99 && (wordB c.what && (inB c.every 1 1000 && (inB c.last 0 9999 && inB c.grade 1 5)))
def okAt (L : List Condition) (i : Nat) : Bool := match L[i]? with
  | none => true
  | some c => condB c && (decide (i = 0) || match L[i - 1]? with
    | none => true
    | some d => decide (d.number < c.number))
def goodC (L : List Condition) : Bool := allAt (okAt L) L.length && decide (L.length ≤ 12)
def endC (c : Condition) : Int := if c.grade = 5 then -1 else if c.grade = 4 then c.last + min 14 c.every else c.last + c.every

theorem isDate_any (n : Int) (w : World) : Calls Try.prog 51 #[.int .i64 n] w fun e w' => e = .returned (.bool (inB n 0 9999)) ∧ w = w' := by
  go_enter Try.func51, Try.ntmps51
  go_wp2_with (go_at_call 49; refine (within_any _ _ _ _).mono ?_; rintro e w' ⟨rfl, rfl⟩)
  go_ret
  exact ⟨rfl, rfl⟩
theorem l24Day_any (n : Int) (w : World) : Calls Try.prog 54 #[.int .i64 n] w fun e w' => e = .returned (.bool (inB n 0 9999)) ∧ w = w' := by
  go_enter Try.func54, Try.ntmps54
  go_wp2_with (go_at_call 73; refine (l1In_any _ _ _ _).mono ?_; rintro e w' ⟨rfl, rfl⟩)
  go_ret
  exact ⟨rfl, rfl⟩

set_option maxHeartbeats 400000 in
theorem IsCondition_any (c : Condition) (w : World) (hs : c.Ok) :
    Calls Try.prog 15 #[.agg #[.int .i64 c.number, .string c.what, .int .i64 c.every, .int .i64 c.last, .int .i64 c.grade]] w fun e w' => e = .returned (.bool (condB c)) ∧ Below w.heap.size w w' := by
  have hs' : c.what.size ≤ maxLen := hs
  go_enter Try.func15, Try.ntmps15
  go_wp2_with (first | (go_at_call 49; refine (within_any _ _ _ _).mono ?_; rintro e w' ⟨rfl, rfl⟩) | (go_at_call 50; refine (isWord_any _ _ hs').mono ?_; rintro e w' ⟨rfl, rfl⟩) | (go_at_call 51; refine (isDate_any _ _).mono ?_; rintro e w' ⟨rfl, rfl⟩))
  all_goals go_ret
  all_goals exact ⟨ret_bool (by simp [condB, *]), (Below.refl _ _).alloc (Nat.le_refl _) _⟩

set_option maxHeartbeats 400000 in
theorem l24One_any (c : Condition) (w : World) (hs : c.Ok) :
    Calls Try.prog 48 #[.agg #[.int .i64 c.number, .string c.what, .int .i64 c.every, .int .i64 c.last, .int .i64 c.grade]] w fun e w' => e = .returned (.bool (condB c)) ∧ Below w.heap.size w w' := by
  have hs' : c.what.size ≤ maxLen := hs
  go_enter Try.func48, Try.ntmps48
  go_wp2_with (first | (go_at_call 73; refine (l1In_any _ _ _ _).mono ?_; rintro e w' ⟨rfl, rfl⟩) | (go_at_call 77; refine (l2Word_any _ _ hs').mono ?_; rintro e w' ⟨rfl, rfl⟩) | (go_at_call 54; refine (l24Day_any _ _).mono ?_; rintro e w' ⟨rfl, rfl⟩))
  all_goals go_ret
  all_goals exact ⟨ret_bool (by simp [condB, *]), (Below.refl _ _).alloc (Nat.le_refl _) _⟩

theorem IsCondition_is {c : Condition} {b : Bool} (h : condB c = b) (w : World) (hs : c.Ok) :
    Calls Try.prog 15 #[.agg #[.int .i64 c.number, .string c.what, .int .i64 c.every, .int .i64 c.last, .int .i64 c.grade]] w fun e w' => e = .returned (.bool b) ∧ Below w.heap.size w w' := h ▸ IsCondition_any c w hs
theorem l24One_is {c : Condition} {b : Bool} (h : condB c = b) (w : World) (hs : c.Ok) :
    Calls Try.prog 48 #[.agg #[.int .i64 c.number, .string c.what, .int .i64 c.every, .int .i64 c.last, .int .i64 c.grade]] w fun e w' => e = .returned (.bool b) ∧ Below w.heap.size w w' := h ▸ l24One_any c w hs

theorem okAt_bad {L : List Condition} {k : Nat} {c : Condition} (h : L[k]? = some c) (hc : condB c = false) : okAt L k = false := by simp [okAt, h, hc]
theorem okAt_low {L : List Condition} {k : Nat} {c d : Condition} (h : L[k]? = some c) (hd : L[k - 1]? = some d) (hk : 0 < k) (hc : ¬ d.number < c.number) : okAt L k = false := by
  simp [okAt, h, hd]; intro _; omega
theorem okAt_first {L : List Condition} {c : Condition} (h : L[0]? = some c) (hc : condB c = true) : okAt L 0 = true := by simp [okAt, h, hc]
theorem okAt_next {L : List Condition} {k : Nat} {c d : Condition} (h : L[k]? = some c) (hd : L[k - 1]? = some d) (hc : condB c = true) (hlt : d.number < c.number) : okAt L k = true := by
  simp [okAt, h, hd, hc, hlt]
theorem goodC_no {L : List Condition} {k : Nat} (h : k < L.length) (hp : okAt L k = false) : goodC L = false := by simp [goodC, allAt_no h hp]
theorem goodC_all {L : List Condition} {k : Nat} (h : L.length ≤ k) (hp : ∀ j, j < k → okAt L j = true) : goodC L = decide (L.length ≤ 12) := by simp [goodC, allAt_yes h hp]

set_option maxHeartbeats 1000000 in
theorem AreConditions_any (L : List Condition) (A : Option Addr) (cap : Nat) (w : World) (hr : Rd Condition.enc 5 w.heap.size w A L) (hok : ∀ c ∈ L, c.Ok) (hl : L.length ≤ maxLen) :
    Calls Try.prog 19 #[.slice A L.length cap] w fun e w' => e = .returned (.bool (goodC L)) ∧ Below w.heap.size w w' := by
  unfold maxLen at hl
  by_cases hL : L = []
  · subst hL
    go_enter Try.func19, Try.ntmps19
    go_wp2_with fail
    go_loop [7] (fun i => i = .int .i64 0) (fun _ => 0)
    case atStart => rfl
    case round =>
      obtain rfl := hrel
      go_wp2_with fail
      go_ret
      exact ⟨rfl, Below.refl _ _⟩
  · obtain ⟨b, o, rfl, hb, hc⟩ := Condition.rd_at hr hL
    clear hr
    go_enter Try.func19, Try.ntmps19
    go_wp2_with fail
    go_loopw [7, 3, 4] (fun i _ _ wr => ∃ k : Nat, k ≤ L.length ∧ i = .int .i64 k ∧ Hid (∀ j, j < k → okAt L j = true) ∧ Below w.heap.size w wr) (fun i _ _ _ => L.length - (intOf i).toNat)
    case atStart => exact ⟨0, Nat.zero_le _, rfl, hide (fun j hj => absurd hj (Nat.not_lt_zero j)), Below.refl _ _⟩
    case round =>
      obtain ⟨k, hk, rfl, hp, hbel⟩ := hrel
      by_cases hlt : k < L.length
      · have hget := List.getElem?_eq_getElem hlt
        obtain ⟨c0, c1, c2, c3, c4⟩ := hc k _ hget
        have hokc := hide (hok L[k] (List.getElem_mem hlt))
        generalize L[k] = c at *
        have HG := hide hget; clear hget
        replace c0 := below_cell hbel c0
        replace c1 := below_cell hbel c1
        replace c2 := below_cell hbel c2
        replace c3 := below_cell hbel c3
        replace c4 := below_cell hbel c4
        have E := Condition.box_after wr c 26
        have hki : (k : Int) < (L.length : Int) := by omega
        cases hcb : condB c
        · go_wp2_with fail
          refine wp_region_after (by kernel_rfl) (by kernel_rfl) ?_
          repeat (go_big_quiet_step ((go_at_call 15; exact Calls.after (IsCondition_is hcb _ hokc.out))))
          refine wpQuiet_nil ?_
          rintro _ ⟨⟨w1, hb1⟩, rfl⟩
          go_wp2_with fail
          go_ret
          exact ⟨ret_bool (goodC_no hlt (okAt_bad HG.out hcb)).symm, hbel.trans ((below_new' hb1).mono hbel.size)⟩
        · rcases Nat.eq_zero_or_pos k with rfl | hk0
          · simp only [Nat.zero_mul, Nat.add_zero] at c0 c1 c2 c3 c4
            go_wp2_with fail
            refine wp_region_after (by kernel_rfl) (by kernel_rfl) ?_
            repeat (go_big_quiet_step ((go_at_call 15; exact Calls.after (IsCondition_is hcb _ hokc.out))))
            refine wpQuiet_nil ?_
            rintro _ ⟨⟨w1, hb1⟩, rfl⟩
            go_wp2_with fail
            go_roundw
            case rel => exact ⟨0 + 1, by omega, by go_num, hide (upto_step hp.out (okAt_first HG.out hcb)), hbel.trans ((below_new' hb1).mono hbel.size)⟩
            case measure => simp [intOf]; omega
          · have hgd := List.getElem?_eq_getElem (show k - 1 < L.length by omega)
            obtain ⟨p0, _⟩ := hc (k - 1) _ hgd
            generalize L[k - 1] = d at *
            have HD := hide hgd; clear hgd
            replace p0 := after_alloc (.cells #[.int .i64 c.number, .string c.what, .int .i64 c.every, .int .i64 c.last, .int .i64 c.grade] 26) (below_cell hbel p0)
            have hk1 : (0 : Int) < (k : Int) := by omega
            by_cases hlow : d.number < c.number
            · have hb0 : decide (c.number ≤ d.number) = false := by simp; omega
              go_wp2_with fail
              refine wp_region_after (by kernel_rfl) (by kernel_rfl) ?_
              repeat (go_big_quiet_step ((go_at_call 15; exact Calls.after (IsCondition_is hcb _ hokc.out))))
              refine wpQuiet_nil ?_
              rintro _ ⟨⟨w1, hb1⟩, rfl⟩
              go_wp2_with fail
              go_roundw
              case rel => exact ⟨k + 1, by omega, by go_num, hide (upto_step hp.out (okAt_next HG.out HD.out hcb hlow)), hbel.trans ((below_new' hb1).mono hbel.size)⟩
              case measure => simp [intOf]; omega
            · have hb0 : decide (c.number ≤ d.number) = true := by simp; omega
              go_wp2_with fail
              refine wp_region_after (by kernel_rfl) (by kernel_rfl) ?_
              repeat (go_big_quiet_step ((go_at_call 15; exact Calls.after (IsCondition_is hcb _ hokc.out))))
              refine wpQuiet_nil ?_
              rintro _ ⟨⟨w1, hb1⟩, rfl⟩
              go_wp2_with fail
              go_ret
              exact ⟨ret_bool (goodC_no hlt (okAt_low HG.out HD.out hk0 (by omega))).symm, hbel.trans ((below_new' hb1).mono hbel.size)⟩
      · go_wp2_with fail
        go_ret
        exact ⟨ret_bool (by rw [goodC_all (by omega) hp.out]; simp; omega), hbel⟩

set_option maxHeartbeats 1000000 in
theorem l24Good_any (L : List Condition) (A : Option Addr) (cap : Nat) (w : World) (hr : Rd Condition.enc 5 w.heap.size w A L) (hok : ∀ c ∈ L, c.Ok) (hl : L.length ≤ maxLen) :
    Calls Try.prog 52 #[.slice A L.length cap] w fun e w' => e = .returned (.bool (goodC L)) ∧ Below w.heap.size w w' := by
  unfold maxLen at hl
  by_cases hL : L = []
  · subst hL
    go_enter Try.func52, Try.ntmps52
    go_wp2_with fail
    go_loop [3] (fun i => i = .int .i64 0) (fun _ => 0)
    case atStart => rfl
    case round =>
      obtain rfl := hrel
      go_wp2_with fail
      go_ret
      exact ⟨rfl, Below.refl _ _⟩
  · obtain ⟨b, o, rfl, hb, hc⟩ := Condition.rd_at hr hL
    clear hr
    go_enter Try.func52, Try.ntmps52
    go_wp2_with fail
    go_loopw [3] (fun i wr => ∃ k : Nat, k ≤ L.length ∧ i = .int .i64 k ∧ Hid (∀ j, j < k → okAt L j = true) ∧ Below w.heap.size w wr) (fun i _ => L.length - (intOf i).toNat)
    case atStart => exact ⟨0, Nat.zero_le _, rfl, hide (fun j hj => absurd hj (Nat.not_lt_zero j)), Below.refl _ _⟩
    case round =>
      obtain ⟨k, hk, rfl, hp, hbel⟩ := hrel
      by_cases hlt : k < L.length
      · have hget := List.getElem?_eq_getElem hlt
        obtain ⟨c0, c1, c2, c3, c4⟩ := hc k _ hget
        have hokc := hide (hok L[k] (List.getElem_mem hlt))
        generalize L[k] = c at *
        have HG := hide hget; clear hget
        replace c0 := after_cell (below_cell hbel c0)
        replace c1 := after_cell (below_cell hbel c1)
        replace c2 := after_cell (below_cell hbel c2)
        replace c3 := after_cell (below_cell hbel c3)
        replace c4 := after_cell (below_cell hbel c4)
        have hki : (k : Int) < (L.length : Int) := by omega
        cases hcb : condB c
        · go_wp2_with fail
          refine wp_region_after (by kernel_rfl) (by kernel_rfl) ?_
          repeat (go_big_quiet_step ((go_at_call 48; exact Calls.after (l24One_is hcb _ hokc.out))))
          refine wpQuiet_nil ?_
          rintro _ ⟨⟨w1, hb1⟩, rfl⟩
          go_wp2_with fail
          go_ret
          exact ⟨ret_bool (goodC_no hlt (okAt_bad HG.out hcb)).symm, below_step hbel hb1 (Nat.le_refl _)⟩
        · rcases Nat.eq_zero_or_pos k with rfl | hk0
          · simp only [Nat.zero_mul, Nat.add_zero] at c0 c1 c2 c3 c4
            go_wp2_with fail
            refine wp_region_after (by kernel_rfl) (by kernel_rfl) ?_
            repeat (go_big_quiet_step ((go_at_call 48; exact Calls.after (l24One_is hcb _ hokc.out))))
            refine wpQuiet_nil ?_
            rintro _ ⟨⟨w1, hb1⟩, rfl⟩
            go_wp2_with fail
            go_roundw
            case rel => exact ⟨0 + 1, by omega, by go_num, hide (upto_step hp.out (okAt_first HG.out hcb)), below_step hbel hb1 (Nat.le_refl _)⟩
            case measure => simp [intOf]; omega
          · have hgd := List.getElem?_eq_getElem (show k - 1 < L.length by omega)
            obtain ⟨p0, _⟩ := hc (k - 1) _ hgd
            generalize L[k - 1] = d at *
            have HD := hide hgd; clear hgd
            replace p0 := after_cell (below_cell hbel p0)
            have hk1 : (0 : Int) < (k : Int) := by omega
            by_cases hlow : d.number < c.number
            · have hb0 : decide (c.number ≤ d.number) = false := by simp; omega
              go_wp2_with fail
              refine wp_region_after (by kernel_rfl) (by kernel_rfl) ?_
              repeat (go_big_quiet_step ((go_at_call 48; exact Calls.after (l24One_is hcb _ hokc.out))))
              refine wpQuiet_nil ?_
              rintro _ ⟨⟨w1, hb1⟩, rfl⟩
              go_wp2_with fail
              go_roundw
              case rel => exact ⟨k + 1, by omega, by go_num, hide (upto_step hp.out (okAt_next HG.out HD.out hcb hlow)), below_step hbel hb1 (Nat.le_refl _)⟩
              case measure => simp [intOf]; omega
            · have hb0 : decide (c.number ≤ d.number) = true := by simp; omega
              go_wp2_with fail
              refine wp_region_after (by kernel_rfl) (by kernel_rfl) ?_
              repeat (go_big_quiet_step ((go_at_call 48; exact Calls.after (l24One_is hcb _ hokc.out))))
              refine wpQuiet_nil ?_
              rintro _ ⟨⟨w1, hb1⟩, rfl⟩
              go_wp2_with fail
              go_ret
              exact ⟨ret_bool (goodC_no hlt (okAt_low HG.out HD.out hk0 (by omega))).symm, below_step hbel hb1 (Nat.le_refl _)⟩
      · go_wp2_with fail
        go_ret
        exact ⟨ret_bool (by rw [goodC_all (by omega) hp.out]; simp; omega), hbel⟩

theorem AreConditions_spec (L : List Condition) (A : Option Addr) (cap : Nat) (w : World) (hr : Rd Condition.enc 5 w.heap.size w A L) (hok : ∀ c ∈ L, c.Ok) (hl : L.length ≤ maxLen) :
    Calls Try.prog 17 #[.slice A L.length cap] w fun e w' => e = .returned (.bool (goodC L)) ∧ Below w.heap.size w w' := by
  go_enter Try.func17, Try.ntmps17
  go_wp2_with (go_at_call 52; refine (l24Good_any L A cap _ hr hok hl).mono ?_; rintro e w' ⟨rfl, hb⟩)
  go_ret
  exact ⟨rfl, hb⟩
theorem IsCondition_spec (c : Condition) (w : World) (hs : c.Ok) :
    Calls Try.prog 13 #[.agg #[.int .i64 c.number, .string c.what, .int .i64 c.every, .int .i64 c.last, .int .i64 c.grade]] w fun e w' => e = .returned (.bool (condB c)) ∧ Below w.heap.size w w' := by
  go_enter Try.func13, Try.ntmps13
  go_wp2_with (go_at_call 48; refine (l24One_any c _ hs).mono ?_; rintro e w' ⟨rfl, hb⟩)
  go_ret
  exact ⟨rfl, below_new' hb⟩

/- the last day on which a condition is met -/
theorem lastMet_any (c : Condition) (w : World) (h1 : -1000000000000 ≤ c.last) (h2 : c.last ≤ 1000000000000) (h3 : -1000000000000 ≤ c.every) (h4 : c.every ≤ 1000000000000) :
    Calls Try.prog 57 #[.agg #[.int .i64 c.number, .string c.what, .int .i64 c.every, .int .i64 c.last, .int .i64 c.grade]] w fun e w' => e = .returned (.int .i64 (endC c)) ∧ Below w.heap.size w w' := by
  by_cases g5 : c.grade = 5
  · have G := hide g5
    have gb : (c.grade == 5) = true := by simp [g5]
    clear g5
    go_enter Try.func57, Try.ntmps57
    go_wp2_with fail
    go_ret
    exact ⟨ret_int (by simp [endC, G.out]), (Below.refl _ _).alloc (Nat.le_refl _) _⟩
  · have gb : (c.grade == 5) = false := by simp [g5]
    by_cases g4 : c.grade = 4
    · have G := hide g4
      have gb4 : (c.grade == 4) = true := by simp [g4]
      clear g4
      go_enter Try.func57, Try.ntmps57
      go_wp2_with fail
      all_goals go_ret
      all_goals exact ⟨ret_int (by simp [endC, G.out]; omega), (Below.refl _ _).alloc (Nat.le_refl _) _⟩
    · have gb4 : (c.grade == 4) = false := by simp [g4]
      go_enter Try.func57, Try.ntmps57
      go_wp2_with fail
      go_ret
      exact ⟨ret_int (by simp [endC, g4, g5]), (Below.refl _ _).alloc (Nat.le_refl _) _⟩
theorem l24End_any (c : Condition) (w : World) (h1 : -1000000000000 ≤ c.last) (h2 : c.last ≤ 1000000000000) (h3 : -1000000000000 ≤ c.every) (h4 : c.every ≤ 1000000000000) :
    Calls Try.prog 56 #[.agg #[.int .i64 c.number, .string c.what, .int .i64 c.every, .int .i64 c.last, .int .i64 c.grade]] w fun e w' => e = .returned (.int .i64 (endC c)) ∧ Below w.heap.size w w' := by
  by_cases g5 : c.grade = 5
  · have G := hide g5
    have gb : (c.grade == 5) = true := by simp [g5]
    clear g5
    go_enter Try.func56, Try.ntmps56
    go_wp2_with (go_at_call 55; refine (l1Least_any _ _ _).mono ?_; rintro e w' ⟨rfl, rfl⟩)
    go_ret
    exact ⟨ret_int (by simp [endC, G.out]), (Below.refl _ _).alloc (Nat.le_refl _) _⟩
  · have gb : (c.grade == 5) = false := by simp [g5]
    by_cases g4 : c.grade = 4
    · have G := hide g4
      have gb4 : (c.grade == 4) = true := by simp [g4]
      clear g4
      have E := Condition.box_after w c 26
      go_enter Try.func56, Try.ntmps56
      go_wp2_with fail
      refine wp_region_after (by kernel_rfl) (by kernel_rfl) ?_
      repeat (go_big_quiet_step ((go_at_call 55; exact Calls.after_same (l1Least_any _ _ _))))
      refine wpQuiet_nil ?_
      rintro _ ⟨⟨w1, hb1⟩, rfl⟩
      go_wp2_with fail
      go_ret
      exact ⟨ret_int (by simp [endC, G.out]), below_new' hb1⟩
    · have gb4 : (c.grade == 4) = false := by simp [g4]
      go_enter Try.func56, Try.ntmps56
      go_wp2_with (go_at_call 55; refine (l1Least_any _ _ _).mono ?_; rintro e w' ⟨rfl, rfl⟩)
      go_ret
      exact ⟨ret_int (by simp [endC, g4, g5]), (Below.refl _ _).alloc (Nat.le_refl _) _⟩
end Go.Proofs.Ytknondhdhjegbaa
