/- Permits: one condition, conditions, the last day on which one is met; the program's functions and the reference's. Slices are as the reader gives them, strings as long as strings may be. -/
import Derived.Test.YtknondhdhjegbaaDoorStCondition
namespace Go.Proofs.YtknondhdhjegbaaDoor
open Go Go.RowKit

def condB (c : Condition) : Bool := inB c.number 1 99 && (wordB c.what && (inB c.every 1 1000 && (inB c.last 0 9999 && inB c.grade 1 5)))
def okAt (L : List Condition) (i : Nat) : Bool := match L[i]? with
  | none => true
  | some c => condB c && (decide (i = 0) || match L[i - 1]? with
    | none => true
    | some d => decide (d.number < c.number))
def goodC (L : List Condition) : Bool := allAt (okAt L) L.length && decide (L.length ≤ 12)
def endC (c : Condition) : Int := if c.grade = 5 then -1 else if c.grade = 4 then c.last + min 14 c.every else c.last + c.every

theorem isDate_any (n : Int) (w : World) : Calls Tryd.prog 13 #[.int .i64 n] w fun e w' => e = .returned (.bool (inB n 0 9999)) ∧ w = w' := by
  go_enter Tryd.func13, Tryd.ntmps13
  go_wp2_with (go_at_call 19; refine (within_any _ _ _ _).mono ?_; rintro e w' ⟨rfl, rfl⟩)
  go_ret
  exact ⟨rfl, rfl⟩
theorem l24Day_any (n : Int) (w : World) : Calls Tryd.prog 9 #[.int .i64 n] w fun e w' => e = .returned (.bool (inB n 0 9999)) ∧ w = w' := by
  go_enter Tryd.func9, Tryd.ntmps9
  go_wp2_with (go_at_call 16; refine (l1In_any _ _ _ _).mono ?_; rintro e w' ⟨rfl, rfl⟩)
  go_ret
  exact ⟨rfl, rfl⟩

set_option maxHeartbeats 400000 in
theorem IsCondition_any (c : Condition) (w : World) (hs : c.Ok) :
    Calls Tryd.prog 12 #[.agg #[.int .i64 c.number, .string c.what, .int .i64 c.every, .int .i64 c.last, .int .i64 c.grade]] w fun e w' => e = .returned (.bool (condB c)) ∧ Below w.heap.size w w' := by
  have hs' : c.what.size ≤ maxLen := hs
  go_enter Tryd.func12, Tryd.ntmps12
  go_wp2_with (first | (go_at_call 19; refine (within_any _ _ _ _).mono ?_; rintro e w' ⟨rfl, rfl⟩) | (go_at_call 20; refine (isWord_any _ _ hs').mono ?_; rintro e w' ⟨rfl, rfl⟩) | (go_at_call 13; refine (isDate_any _ _).mono ?_; rintro e w' ⟨rfl, rfl⟩))
  all_goals go_ret
  all_goals exact ⟨ret_bool (by simp [condB, *]), (Below.refl _ _).alloc (Nat.le_refl _) _⟩

set_option maxHeartbeats 400000 in
theorem l24One_any (c : Condition) (w : World) (hs : c.Ok) :
    Calls Tryd.prog 8 #[.agg #[.int .i64 c.number, .string c.what, .int .i64 c.every, .int .i64 c.last, .int .i64 c.grade]] w fun e w' => e = .returned (.bool (condB c)) ∧ Below w.heap.size w w' := by
  have hs' : c.what.size ≤ maxLen := hs
  go_enter Tryd.func8, Tryd.ntmps8
  go_wp2_with (first | (go_at_call 16; refine (l1In_any _ _ _ _).mono ?_; rintro e w' ⟨rfl, rfl⟩) | (go_at_call 17; refine (l2Word_any _ _ hs').mono ?_; rintro e w' ⟨rfl, rfl⟩) | (go_at_call 9; refine (l24Day_any _ _).mono ?_; rintro e w' ⟨rfl, rfl⟩))
  all_goals go_ret
  all_goals exact ⟨ret_bool (by simp [condB, *]), (Below.refl _ _).alloc (Nat.le_refl _) _⟩

theorem IsCondition_is {c : Condition} {b : Bool} (h : condB c = b) (w : World) (hs : c.Ok) :
    Calls Tryd.prog 12 #[.agg #[.int .i64 c.number, .string c.what, .int .i64 c.every, .int .i64 c.last, .int .i64 c.grade]] w fun e w' => e = .returned (.bool b) ∧ Below w.heap.size w w' := h ▸ IsCondition_any c w hs
theorem l24One_is {c : Condition} {b : Bool} (h : condB c = b) (w : World) (hs : c.Ok) :
    Calls Tryd.prog 8 #[.agg #[.int .i64 c.number, .string c.what, .int .i64 c.every, .int .i64 c.last, .int .i64 c.grade]] w fun e w' => e = .returned (.bool b) ∧ Below w.heap.size w w' := h ▸ l24One_any c w hs

theorem okAt_bad {L : List Condition} {k : Nat} {c : Condition} (h : L[k]? = some c) (hc : condB c = false) : okAt L k = false := by simp [okAt, h, hc]
theorem okAt_low {L : List Condition} {k : Nat} {c d : Condition} (h : L[k]? = some c) (hd : L[k - 1]? = some d) (hk : 0 < k) (hc : ¬ d.number < c.number) : okAt L k = false := by
  simp [okAt, h, hd]; intro _; omega
theorem okAt_first {L : List Condition} {c : Condition} (h : L[0]? = some c) (hc : condB c = true) : okAt L 0 = true := by simp [okAt, h, hc]
theorem okAt_next {L : List Condition} {k : Nat} {c d : Condition} (h : L[k]? = some c) (hd : L[k - 1]? = some d) (hc : condB c = true) (hlt : d.number < c.number) : okAt L k = true := by
  simp [okAt, h, hd, hc, hlt]
theorem goodC_no {L : List Condition} {k : Nat} (h : k < L.length) (hp : okAt L k = false) : goodC L = false := by simp [goodC, allAt_no h hp]
theorem goodC_all {L : List Condition} {k : Nat} (h : L.length ≤ k) (hp : ∀ j, j < k → okAt L j = true) : goodC L = decide (L.length ≤ 12) := by simp [goodC, allAt_yes h hp]

/- the last day on which a condition is met -/
theorem lastMet_any (c : Condition) (w : World) (h1 : -1000000000000 ≤ c.last) (h2 : c.last ≤ 1000000000000) (h3 : -1000000000000 ≤ c.every) (h4 : c.every ≤ 1000000000000) :
    Calls Tryd.prog 15 #[.agg #[.int .i64 c.number, .string c.what, .int .i64 c.every, .int .i64 c.last, .int .i64 c.grade]] w fun e w' => e = .returned (.int .i64 (endC c)) ∧ Below w.heap.size w w' := by
  by_cases g5 : c.grade = 5
  · have G := hide g5
    have gb : (c.grade == 5) = true := by simp [g5]
    clear g5
    go_enter Tryd.func15, Tryd.ntmps15
    go_wp2_with fail
    go_ret
    exact ⟨ret_int (by simp [endC, G.out]), (Below.refl _ _).alloc (Nat.le_refl _) _⟩
  · have gb : (c.grade == 5) = false := by simp [g5]
    by_cases g4 : c.grade = 4
    · have G := hide g4
      have gb4 : (c.grade == 4) = true := by simp [g4]
      clear g4
      go_enter Tryd.func15, Tryd.ntmps15
      go_wp2_with fail
      all_goals go_ret
      all_goals exact ⟨ret_int (by simp [endC, G.out]; omega), (Below.refl _ _).alloc (Nat.le_refl _) _⟩
    · have gb4 : (c.grade == 4) = false := by simp [g4]
      go_enter Tryd.func15, Tryd.ntmps15
      go_wp2_with fail
      go_ret
      exact ⟨ret_int (by simp [endC, g4, g5]), (Below.refl _ _).alloc (Nat.le_refl _) _⟩
theorem l24End_any (c : Condition) (w : World) (h1 : -1000000000000 ≤ c.last) (h2 : c.last ≤ 1000000000000) (h3 : -1000000000000 ≤ c.every) (h4 : c.every ≤ 1000000000000) :
    Calls Tryd.prog 11 #[.agg #[.int .i64 c.number, .string c.what, .int .i64 c.every, .int .i64 c.last, .int .i64 c.grade]] w fun e w' => e = .returned (.int .i64 (endC c)) ∧ Below w.heap.size w w' := by
  by_cases g5 : c.grade = 5
  · have G := hide g5
    have gb : (c.grade == 5) = true := by simp [g5]
    clear g5
    go_enter Tryd.func11, Tryd.ntmps11
    go_wp2_with (go_at_call 18; refine (l1Least_any _ _ _).mono ?_; rintro e w' ⟨rfl, rfl⟩)
    go_ret
    exact ⟨ret_int (by simp [endC, G.out]), (Below.refl _ _).alloc (Nat.le_refl _) _⟩
  · have gb : (c.grade == 5) = false := by simp [g5]
    by_cases g4 : c.grade = 4
    · have G := hide g4
      have gb4 : (c.grade == 4) = true := by simp [g4]
      clear g4
      have E := Condition.box_after w c 27
      go_enter Tryd.func11, Tryd.ntmps11
      go_wp2_with fail
      refine wp_region_after (by kernel_rfl) (by kernel_rfl) ?_
      repeat (go_big_quiet_step ((go_at_call 18; exact Calls.after_same (l1Least_any _ _ _))))
      refine wpQuiet_nil ?_
      rintro _ ⟨⟨w1, hb1⟩, rfl⟩
      go_wp2_with fail
      go_ret
      exact ⟨ret_int (by simp [endC, G.out]), below_new' hb1⟩
    · have gb4 : (c.grade == 4) = false := by simp [g4]
      go_enter Tryd.func11, Tryd.ntmps11
      go_wp2_with (go_at_call 18; refine (l1Least_any _ _ _).mono ?_; rintro e w' ⟨rfl, rfl⟩)
      go_ret
      exact ⟨ret_int (by simp [endC, g4, g5]), (Below.refl _ _).alloc (Nat.le_refl _) _⟩
end Go.Proofs.YtknondhdhjegbaaDoor
