/- Grip states: whether one is valid; the program's function and the reference's. -/
import Derived.Test.YtkdnkhbcbcffeaaDoorStGripState
namespace Go.Proofs.YtkdnkhbcbcffeaaDoor
open Go Go.RowKit
set_option linter.unusedVariables false
def gripR (st zo fo : Int) : Bool := (decide (fo ≤ 0) || decide (st = 2)) && (if zo = 0 then decide (st = 0 ∨ st = 4) else if zo = 2 then decide (st = 2 ∧ 500 ≤ fo) else if zo = 3 then decide (st ≠ 4 ∧ st ≠ 1) else decide (st ≠ 4))
def gripB (g : GripState) : Bool := inB g.state 0 4 && (inB g.zone 0 3 && (inB g.force 0 2000 && (inB g.fails 0 3 && gripR g.state g.zone g.force)))
set_option maxHeartbeats 4000000 in
theorem IsGripState_any (g : GripState) (w : World) :
    Calls Tryd.prog 13 #[.agg #[.int .i64 g.state, .int .i64 g.zone, .int .i64 g.force, .int .i64 g.fails]] w fun e w' => e = .returned (.bool (gripB g)) ∧ Below w.heap.size w w' := by
  obtain ⟨st, zo, fo, fa⟩ := g
  show Calls _ _ #[.agg #[.int .i64 st, .int .i64 zo, .int .i64 fo, .int .i64 fa]] w _
  cases h0 : inB st 0 4
  · have HG := hide (show gripB ⟨st, zo, fo, fa⟩ = false by simp [gripB, h0])
    go_enter Tryd.func13, Tryd.ntmps13
    go_wp2_with (first | (go_at_call 24; refine (within_is (by assumption) _).mono ?_; rintro e w' ⟨rfl, rfl⟩))
    go_ret
    exact ⟨ret_bool HG.out.symm, (Below.refl _ _).alloc (Nat.le_refl _) _⟩
  · have hz0 := True.intro
    cases h1 : inB zo 0 3
    · have HG := hide (show gripB ⟨st, zo, fo, fa⟩ = false by simp [gripB, h1])
      go_enter Tryd.func13, Tryd.ntmps13
      go_wp2_with (first | (go_at_call 24; refine (within_is (by assumption) _).mono ?_; rintro e w' ⟨rfl, rfl⟩))
      go_ret
      exact ⟨ret_bool HG.out.symm, (Below.refl _ _).alloc (Nat.le_refl _) _⟩
    · have hz1 := True.intro
      cases h2 : inB fo 0 2000
      · have HG := hide (show gripB ⟨st, zo, fo, fa⟩ = false by simp [gripB, h2])
        go_enter Tryd.func13, Tryd.ntmps13
        go_wp2_with (first | (go_at_call 24; refine (within_is (by assumption) _).mono ?_; rintro e w' ⟨rfl, rfl⟩))
        go_ret
        exact ⟨ret_bool HG.out.symm, (Below.refl _ _).alloc (Nat.le_refl _) _⟩
      · have hz2 := True.intro
        cases h3 : inB fa 0 3
        · have HG := hide (show gripB ⟨st, zo, fo, fa⟩ = false by simp [gripB, h3])
          go_enter Tryd.func13, Tryd.ntmps13
          go_wp2_with (first | (go_at_call 24; refine (within_is (by assumption) _).mono ?_; rintro e w' ⟨rfl, rfl⟩))
          go_ret
          exact ⟨ret_bool HG.out.symm, (Below.refl _ _).alloc (Nat.le_refl _) _⟩
        · have hz3 := True.intro
          have HG := hide (show gripB ⟨st, zo, fo, fa⟩ = gripR st zo fo by simp [gripB, h0, h1, h2, h3])
          have b0 := inB_iff.1 h0; have b1 := inB_iff.1 h1; have b2 := inB_iff.1 h2
          rcases (by omega : zo = 0 ∨ zo = 1 ∨ zo = 2 ∨ zo = 3) with rfl | rfl | rfl | rfl <;> by_cases hs2 : st = 2
          all_goals rcases (by omega : fo = 0 ∨ 1 ≤ fo) with rfl | hf1
          all_goals
            first | have hne : (fo != 0) = true := (by simp; omega) | skip
            first | have hne2 : (st != 2) = true := (by simp; omega) | (obtain rfl : st = 2 := by omega)
            go_enter Tryd.func13, Tryd.ntmps13
            go_wp2_with (first | (go_at_call 24; refine (within_is (by assumption) _).mono ?_; rintro e w' ⟨rfl, rfl⟩))
          all_goals
            go_ret
            refine ⟨ret_bool ?_, (Below.refl _ _).alloc (Nat.le_refl _) _⟩
            rw [HG.out]
            first | (simp [gripR]; done) | (simp [gripR]; omega) | (rw [Bool.eq_iff_iff]; simp [gripR]; done) | (simp [gripR, *]; done) | (rw [Bool.eq_iff_iff]; simp [gripR, *]; done) | (rw [Bool.eq_iff_iff]; simp [gripR]; omega) | (have h5 : ¬ fo ≤ 0 := (by omega); simp [gripR, h5, *]; done) | (have h5 : ¬ fo ≤ 0 := (by omega); simp [gripR, h5, *]; omega) | (have h5 : ¬ fo ≤ 0 := (by omega); rw [Bool.eq_iff_iff]; simp [gripR, h5, *]; done) | (have h5 : ¬ fo ≤ 0 := (by omega); rw [Bool.eq_iff_iff]; simp [gripR, h5]; done) | (have h5 : ¬ fo ≤ 0 := (by omega); rw [Bool.eq_iff_iff]; simp [gripR, h5]; omega)
theorem IsGripState_is {g : GripState} {b : Bool} (h : gripB g = b) (w : World) :
    Calls Tryd.prog 13 #[.agg #[.int .i64 g.state, .int .i64 g.zone, .int .i64 g.force, .int .i64 g.fails]] w fun e w' => e = .returned (.bool b) ∧ Below w.heap.size w w' := h ▸ IsGripState_any g w
set_option maxHeartbeats 4000000 in
theorem l21Good_any (g : GripState) (w : World) :
    Calls Tryd.prog 11 #[.agg #[.int .i64 g.state, .int .i64 g.zone, .int .i64 g.force, .int .i64 g.fails]] w fun e w' => e = .returned (.bool (gripB g)) ∧ Below w.heap.size w w' := by
  obtain ⟨st, zo, fo, fa⟩ := g
  show Calls _ _ #[.agg #[.int .i64 st, .int .i64 zo, .int .i64 fo, .int .i64 fa]] w _
  cases h0 : inB st 0 4
  · have HG := hide (show gripB ⟨st, zo, fo, fa⟩ = false by simp [gripB, h0])
    go_enter Tryd.func11, Tryd.ntmps11
    go_wp2_with (first | (go_at_call 20; refine (l1In_is (by assumption) _).mono ?_; rintro e w' ⟨rfl, rfl⟩))
    go_ret
    exact ⟨ret_bool HG.out.symm, (Below.refl _ _).alloc (Nat.le_refl _) _⟩
  · have hz0 := True.intro
    cases h1 : inB zo 0 3
    · have HG := hide (show gripB ⟨st, zo, fo, fa⟩ = false by simp [gripB, h1])
      go_enter Tryd.func11, Tryd.ntmps11
      go_wp2_with (first | (go_at_call 20; refine (l1In_is (by assumption) _).mono ?_; rintro e w' ⟨rfl, rfl⟩))
      go_ret
      exact ⟨ret_bool HG.out.symm, (Below.refl _ _).alloc (Nat.le_refl _) _⟩
    · have hz1 := True.intro
      cases h2 : inB fo 0 2000
      · have HG := hide (show gripB ⟨st, zo, fo, fa⟩ = false by simp [gripB, h2])
        go_enter Tryd.func11, Tryd.ntmps11
        go_wp2_with (first | (go_at_call 20; refine (l1In_is (by assumption) _).mono ?_; rintro e w' ⟨rfl, rfl⟩))
        go_ret
        exact ⟨ret_bool HG.out.symm, (Below.refl _ _).alloc (Nat.le_refl _) _⟩
      · have hz2 := True.intro
        cases h3 : inB fa 0 3
        · have HG := hide (show gripB ⟨st, zo, fo, fa⟩ = false by simp [gripB, h3])
          go_enter Tryd.func11, Tryd.ntmps11
          go_wp2_with (first | (go_at_call 20; refine (l1In_is (by assumption) _).mono ?_; rintro e w' ⟨rfl, rfl⟩))
          go_ret
          exact ⟨ret_bool HG.out.symm, (Below.refl _ _).alloc (Nat.le_refl _) _⟩
        · have hz3 := True.intro
          have HG := hide (show gripB ⟨st, zo, fo, fa⟩ = gripR st zo fo by simp [gripB, h0, h1, h2, h3])
          have b0 := inB_iff.1 h0; have b1 := inB_iff.1 h1; have b2 := inB_iff.1 h2
          rcases (by omega : zo = 0 ∨ zo = 1 ∨ zo = 2 ∨ zo = 3) with rfl | rfl | rfl | rfl <;> by_cases hs2 : st = 2
          all_goals rcases (by omega : fo = 0 ∨ 1 ≤ fo) with rfl | hf1
          all_goals
            first | have hne : (fo != 0) = true := (by simp; omega) | skip
            first | have hne2 : (st != 2) = true := (by simp; omega) | (obtain rfl : st = 2 := by omega)
            go_enter Tryd.func11, Tryd.ntmps11
            go_wp2_with (first | (go_at_call 20; refine (l1In_is (by assumption) _).mono ?_; rintro e w' ⟨rfl, rfl⟩))
          all_goals
            go_ret
            refine ⟨ret_bool ?_, (Below.refl _ _).alloc (Nat.le_refl _) _⟩
            rw [HG.out]
            first | (simp [gripR]; done) | (simp [gripR]; omega) | (rw [Bool.eq_iff_iff]; simp [gripR]; done) | (simp [gripR, *]; done) | (rw [Bool.eq_iff_iff]; simp [gripR, *]; done) | (rw [Bool.eq_iff_iff]; simp [gripR]; omega) | (have h5 : ¬ fo ≤ 0 := (by omega); simp [gripR, h5, *]; done) | (have h5 : ¬ fo ≤ 0 := (by omega); simp [gripR, h5, *]; omega) | (have h5 : ¬ fo ≤ 0 := (by omega); rw [Bool.eq_iff_iff]; simp [gripR, h5, *]; done) | (have h5 : ¬ fo ≤ 0 := (by omega); rw [Bool.eq_iff_iff]; simp [gripR, h5]; done) | (have h5 : ¬ fo ≤ 0 := (by omega); rw [Bool.eq_iff_iff]; simp [gripR, h5]; omega)
theorem l21Good_is {g : GripState} {b : Bool} (h : gripB g = b) (w : World) :
    Calls Tryd.prog 11 #[.agg #[.int .i64 g.state, .int .i64 g.zone, .int .i64 g.force, .int .i64 g.fails]] w fun e w' => e = .returned (.bool b) ∧ Below w.heap.size w w' := h ▸ l21Good_any g w
end Go.Proofs.YtkdnkhbcbcffeaaDoor
