/- ConditionText: both packages. The table of powers of ten is as the row's list says. -/
import Derived.Test.YtknondhdhjegbaaDoorPermits
import Derived.Test.YtknondhdhjegbaaDoorNum
namespace Go.Proofs.YtknondhdhjegbaaDoor
open Go Go.RowKit
set_option linter.unusedVariables false
def utf (l : List UInt8) : ByteArray := ⟨l.toArray⟩
def ctA : ByteArray := ⟨#[46, 32]⟩
def ctB : ByteArray := ⟨#[32, 101, 118, 101, 114, 121, 32]⟩
def ctC : ByteArray := ⟨#[32, 100, 97, 121, 115, 58, 32]⟩
def ctN : ByteArray := ⟨#[110, 111, 116, 32]⟩
def ctM : ByteArray := ⟨#[109, 101, 116]⟩
def ctxtB (c : Condition) (day : Int) : Bool := condB c && inB day 0 9999
def ctxtH (c : Condition) : ByteArray := numB c.number ++ ctA ++ c.what ++ ctB ++ numB c.every ++ ctC
def ctxtV (c : Condition) (day : Int) : ByteArray := if ctxtB c day then (if endC c < day then ctxtH c ++ ctN else ctxtH c) ++ ctM else ⟨#[]⟩
theorem ctxt_no {c : Condition} {day : Int} (h : ctxtB c day = false) : ctxtV c day = ⟨#[]⟩ := by simp [ctxtV, h]
theorem ctxt_not {c : Condition} {day : Int} (h : ctxtB c day = true) (hd : endC c < day) : ctxtV c day = ctxtH c ++ ctN ++ ctM := by rw [ctxtV, if_pos h, if_pos hd]
theorem ctxt_met {c : Condition} {day : Int} (h : ctxtB c day = true) (hd : ¬ endC c < day) : ctxtV c day = ctxtH c ++ ctM := by rw [ctxtV, if_pos h, if_neg hd]
theorem condB_nums {c : Condition} (h : condB c = true) : (1 ≤ c.number ∧ c.number ≤ 99) ∧ (1 ≤ c.every ∧ c.every ≤ 1000) ∧ (0 ≤ c.last ∧ c.last ≤ 9999) ∧ wordB c.what = true := by
  simp only [condB, Bool.and_eq_true, inB_iff] at h
  obtain ⟨h1, h2, h3, h4, h5⟩ := h
  exact ⟨h1, h3, h4, h2⟩

set_option maxRecDepth 100000 in
set_option maxHeartbeats 4000000 in
theorem ConditionText_any (c : Condition) (day : Int) (w : World) (hs : c.Ok) (ht : Tab10 w) :
    Calls Tryd.prog 7 #[.agg #[.int .i64 c.number, .string c.what, .int .i64 c.every, .int .i64 c.last, .int .i64 c.grade], .int .i64 day] w fun e w' => e = .returned (.tuple #[.string (ctxtV c day), .bool (ctxtB c day)]) ∧ Below w.heap.size w w' := by
  have hba : Below w.heap.size w (w.alloc (.cells #[.int .i64 c.number, .string c.what, .int .i64 c.every, .int .i64 c.last, .int .i64 c.grade] 27)) := (Below.refl _ _).alloc (Nat.le_refl _) _
  have hbx := hide (fun d => Condition.box_after w c 27 d)
  have hcb0 : condB c = false ∨ (condB c = true ∧ inB day 0 9999 = false) ∨ (condB c = true ∧ inB day 0 9999 = true) := by cases condB c <;> cases inB day 0 9999 <;> simp
  rcases hcb0 with hp | ⟨hp, hd⟩ | ⟨hp, hd⟩
  · have HP := hide hp; clear hp
    have HB := hide (show ctxtB c day = false by simp [ctxtB, HP.out])
    go_enter Tryd.func7, Tryd.ntmps7
    go_wp2_with (go_at_call 12; refine (IsCondition_is HP.out _ hs).mono ?_; rintro e w1 ⟨rfl, hb1⟩)
    go_ret2
    rw [HB.out, ctxt_no HB.out]
    exact ⟨rfl, below_step hba hb1 (Nat.le_refl _)⟩
  · have HP := hide hp; clear hp
    have HB := hide (show ctxtB c day = false by simp [ctxtB, HP.out, hd])
    go_enter Tryd.func7, Tryd.ntmps7
    go_wp2_with (first | (go_at_call 12; refine (IsCondition_is HP.out _ hs).mono ?_; rintro e w1 ⟨rfl, hb1⟩) | (go_at_call 13; refine (isDate_any _ _).mono ?_; rintro e w2 ⟨rfl, rfl⟩))
    go_ret2
    rw [HB.out, ctxt_no HB.out]
    exact ⟨rfl, below_step hba hb1 (Nat.le_refl _)⟩
  · have HP := hide hp; clear hp
    have HB := hide (show ctxtB c day = true by simp [ctxtB, HP.out, hd])
    obtain ⟨⟨n0, n1⟩, ⟨e0, e1⟩, ⟨l0, l1⟩, hw⟩ := condB_nums HP.out
    have hw10 : c.what.size ≤ 10 := by simp only [wordB, Bool.and_eq_true, inB_iff] at hw; omega
    have s1 := numB_size (n := c.number) (by omega) (by omega)
    have s2 := numB_size (n := c.every) (by omega) (by omega)
    clear hw
    go_enter Tryd.func7, Tryd.ntmps7
    go_wp2_with (first | (go_at_call 12; refine (IsCondition_is HP.out _ hs).mono ?_; rintro e w1 ⟨rfl, hb1⟩) | (go_at_call 13; refine (isDate_any _ _).mono ?_; rintro e w2 ⟨rfl, rfl⟩))
    have B1 := below_step hba hb1 (Nat.le_refl _)
    obtain ⟨z0, z1, z2, z3, z4⟩ := hbx.out ⟨_, hb1⟩
    have a0 := after_cell z0; have a1 := after_cell z1; have a2 := after_cell z2
    have HT := hide (ht.below B1)
    refine wp_region_after (by kernel_rfl) (by kernel_rfl) ?_
    repeat (go_big_quiet_step ((go_at_call 14; exact Calls.after (Itoa_any _ _ (by omega) (by omega) (HT.out.below (Subtype.property _))))))
    refine wpQuiet_nil ?_
    rintro _ ⟨⟨w3, hb3⟩, rfl⟩
    clear a0 a1 a2
    replace z0 := below_cell hb3 z0; replace z1 := below_cell hb3 z1; replace z2 := below_cell hb3 z2; replace z3 := below_cell hb3 z3; replace z4 := below_cell hb3 z4
    have B3 := below_step B1 hb3 (Nat.le_refl _)
    by_cases hd : endC c < day
    · go_wp2_with (go_at_call 15; refine (lastMet_any c _ (by omega) (by omega) (by omega) (by omega)).mono ?_; rintro e w4 ⟨rfl, hb4⟩)
      go_ret2
      rw [HB.out, ctxt_not HB.out (by omega)]
      exact ⟨rfl, below_step B3 hb4 (Nat.le_refl _)⟩
    · go_wp2_with (go_at_call 15; refine (lastMet_any c _ (by omega) (by omega) (by omega) (by omega)).mono ?_; rintro e w4 ⟨rfl, hb4⟩)
      go_ret2
      rw [HB.out, ctxt_met HB.out (by omega)]
      exact ⟨rfl, below_step B3 hb4 (Nat.le_refl _)⟩
set_option maxRecDepth 100000 in
set_option maxHeartbeats 4000000 in
theorem ConditionText_spec (c : Condition) (day : Int) (w : World) (hs : c.Ok) :
    Calls Tryd.prog 5 #[.agg #[.int .i64 c.number, .string c.what, .int .i64 c.every, .int .i64 c.last, .int .i64 c.grade], .int .i64 day] w fun e w' => e = .returned (.tuple #[.string (ctxtV c day), .bool (ctxtB c day)]) ∧ Below w.heap.size w w' := by
  have hba : Below w.heap.size w (w.alloc (.cells #[.int .i64 c.number, .string c.what, .int .i64 c.every, .int .i64 c.last, .int .i64 c.grade] 27)) := (Below.refl _ _).alloc (Nat.le_refl _) _
  have hbx := hide (fun d => Condition.box_after w c 27 d)
  have hcb0 : condB c = false ∨ (condB c = true ∧ inB day 0 9999 = false) ∨ (condB c = true ∧ inB day 0 9999 = true) := by cases condB c <;> cases inB day 0 9999 <;> simp
  rcases hcb0 with hp | ⟨hp, hd⟩ | ⟨hp, hd⟩
  · have HP := hide hp; clear hp
    have HB := hide (show ctxtB c day = false by simp [ctxtB, HP.out])
    go_enter Tryd.func5, Tryd.ntmps5
    go_wp2_with (go_at_call 8; refine (l24One_is HP.out _ hs).mono ?_; rintro e w1 ⟨rfl, hb1⟩)
    go_ret2
    rw [HB.out, ctxt_no HB.out]
    exact ⟨rfl, below_step hba hb1 (Nat.le_refl _)⟩
  · have HP := hide hp; clear hp
    have HB := hide (show ctxtB c day = false by simp [ctxtB, HP.out, hd])
    go_enter Tryd.func5, Tryd.ntmps5
    go_wp2_with (first | (go_at_call 8; refine (l24One_is HP.out _ hs).mono ?_; rintro e w1 ⟨rfl, hb1⟩) | (go_at_call 9; refine (l24Day_any _ _).mono ?_; rintro e w2 ⟨rfl, rfl⟩))
    go_ret2
    rw [HB.out, ctxt_no HB.out]
    exact ⟨rfl, below_step hba hb1 (Nat.le_refl _)⟩
  · have HP := hide hp; clear hp
    have HB := hide (show ctxtB c day = true by simp [ctxtB, HP.out, hd])
    obtain ⟨⟨n0, n1⟩, ⟨e0, e1⟩, ⟨l0, l1⟩, hw⟩ := condB_nums HP.out
    have hw10 : c.what.size ≤ 10 := by simp only [wordB, Bool.and_eq_true, inB_iff] at hw; omega
    have s1 := numB_size (n := c.number) (by omega) (by omega)
    have s2 := numB_size (n := c.every) (by omega) (by omega)
    clear hw
    go_enter Tryd.func5, Tryd.ntmps5
    go_wp2_with (first | (go_at_call 8; refine (l24One_is HP.out _ hs).mono ?_; rintro e w1 ⟨rfl, hb1⟩) | (go_at_call 9; refine (l24Day_any _ _).mono ?_; rintro e w2 ⟨rfl, rfl⟩))
    have B1 := below_step hba hb1 (Nat.le_refl _)
    obtain ⟨z0, z1, z2, z3, z4⟩ := hbx.out ⟨_, hb1⟩
    have a0 := after_cell z0; have a1 := after_cell z1; have a2 := after_cell z2
    refine wp_region_after (by kernel_rfl) (by kernel_rfl) ?_
    repeat (go_big_quiet_step ((go_at_call 10; exact Calls.after (l1Num_any _ _ (by omega) (by omega)))))
    refine wpQuiet_nil ?_
    rintro _ ⟨⟨w3, hb3⟩, rfl⟩
    clear a0 a1 a2
    replace z0 := below_cell hb3 z0; replace z1 := below_cell hb3 z1; replace z2 := below_cell hb3 z2; replace z3 := below_cell hb3 z3; replace z4 := below_cell hb3 z4
    have B3 := below_step B1 hb3 (Nat.le_refl _)
    by_cases hd : endC c < day
    · go_wp2_with (go_at_call 11; refine (l24End_any c _ (by omega) (by omega) (by omega) (by omega)).mono ?_; rintro e w4 ⟨rfl, hb4⟩)
      go_ret2
      rw [HB.out, ctxt_not HB.out (by omega)]
      exact ⟨rfl, below_step B3 hb4 (Nat.le_refl _)⟩
    · go_wp2_with (go_at_call 11; refine (l24End_any c _ (by omega) (by omega) (by omega) (by omega)).mono ?_; rintro e w4 ⟨rfl, hb4⟩)
      go_ret2
      rw [HB.out, ctxt_met HB.out (by omega)]
      exact ⟨rfl, below_step B3 hb4 (Nat.le_refl _)⟩
end Go.Proofs.YtknondhdhjegbaaDoor
