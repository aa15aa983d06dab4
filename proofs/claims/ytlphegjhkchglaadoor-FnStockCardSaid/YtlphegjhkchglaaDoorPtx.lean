/- PartsLine: both packages. The table of powers of ten is as the row's list says. -/
import Derived.Test.YtlphegjhkchglaaDoorParts
import Derived.Test.YtlphegjhkchglaaDoorNum
namespace Go.Proofs.YtlphegjhkchglaaDoor
open Go Go.RowKit
set_option linter.unusedVariables false
def ptA : ByteArray := ⟨#[58, 32]⟩
def ptB : ByteArray := ⟨#[32, 111, 102, 32]⟩
def ptC : ByteArray := ⟨#[44, 32, 111, 114, 100, 101, 114, 32]⟩
def ptxH (c : Part) : ByteArray := c.name ++ ptA ++ numB c.have_ ++ ptB ++ numB c.least
def ptxV (c : Part) : ByteArray := if stockB c then (if c.have_ < c.least then ptxH c ++ (ptC ++ numB (c.least - c.have_)) else ptxH c) else ⟨#[]⟩
theorem ptx_no {c : Part} (h : stockB c = false) : ptxV c = ⟨#[]⟩ := by simp [ptxV, h]
theorem ptx_lo {c : Part} (h : stockB c = true) (hd : c.have_ < c.least) : ptxV c = ptxH c ++ (ptC ++ numB (c.least - c.have_)) := by rw [ptxV, if_pos h, if_pos hd]
theorem ptx_hi {c : Part} (h : stockB c = true) (hd : ¬ c.have_ < c.least) : ptxV c = ptxH c := by rw [ptxV, if_pos h, if_neg hd]
theorem ba_assoc (a b c : ByteArray) : a ++ b ++ c = a ++ (b ++ c) := by
  apply ByteArray.ext
  simp [ByteArray.data_append]
theorem stockB_nums {c : Part} (h : stockB c = true) : (0 ≤ c.have_ ∧ c.have_ ≤ 500) ∧ (0 ≤ c.least ∧ c.least ≤ 500) ∧ c.name.size ≤ 10 := by
  simp only [stockB, wordB, Bool.and_eq_true, inB_iff] at h
  obtain ⟨⟨_, h1⟩, h2, h3, _⟩ := h
  omega

set_option maxRecDepth 100000 in
set_option maxHeartbeats 4000000 in
theorem PartsLine_any (c : Part) (w : World) (hs : c.Ok) (ht : Tab10 w) :
    Calls Tryd.prog 8 #[.agg #[.string c.name, .int .i64 c.have_, .int .i64 c.least, .int .i64 c.lead, .int .i64 c.price]] w fun e w' => e = .returned (.tuple #[.string (ptxV c), .bool (stockB c)]) ∧ Below w.heap.size w w' := by
  have hba : Below w.heap.size w (w.alloc (.cells #[.string c.name, .int .i64 c.have_, .int .i64 c.least, .int .i64 c.lead, .int .i64 c.price] 27)) := (Below.refl _ _).alloc (Nat.le_refl _) _
  have hbx := hide (fun d => Part.box_after w c 27 d)
  cases hp : stockB c
  · have HP := hide hp; clear hp
    go_enter Tryd.func8, Tryd.ntmps8
    go_wp2_with (go_at_call 24; refine (isStockPart_is (c := c) HP.out _ hs).mono ?_; rintro e w1 ⟨rfl, hb1⟩)
    go_ret2
    rw [ptx_no HP.out]
    exact ⟨rfl, below_step hba hb1 (Nat.le_refl _)⟩
  · have HP := hide hp; clear hp
    obtain ⟨⟨n0, n1⟩, ⟨e0, e1⟩, hw10⟩ := stockB_nums HP.out
    have s1 := numB_size (n := c.have_) (by omega) (by omega)
    have s2 := numB_size (n := c.least) (by omega) (by omega)
    go_enter Tryd.func8, Tryd.ntmps8
    go_wp2_with (go_at_call 24; refine (isStockPart_is (c := c) HP.out _ hs).mono ?_; rintro e w1 ⟨rfl, hb1⟩)
    have B1 := below_step hba hb1 (Nat.le_refl _)
    obtain ⟨z0, z1, z2, z3, z4⟩ := hbx.out ⟨_, hb1⟩
    have a0 := after_cell z0; have a1 := after_cell z1; have a2 := after_cell z2
    have HT := hide (ht.below B1)
    refine wp_region_after (by kernel_rfl) (by kernel_rfl) ?_
    repeat (go_big_quiet_step ((go_at_call 25; exact Calls.after (Itoa_any _ _ (by omega) (by omega) (HT.out.below (Subtype.property _))))))
    refine wpQuiet_nil ?_
    rintro _ ⟨⟨w3, hb3⟩, rfl⟩
    clear a0 a1 a2
    replace z0 := below_cell hb3 z0; replace z1 := below_cell hb3 z1; replace z2 := below_cell hb3 z2; replace z3 := below_cell hb3 z3; replace z4 := below_cell hb3 z4
    have B3 := below_step B1 hb3 (Nat.le_refl _)
    by_cases hd : c.have_ < c.least
    · have s3 := numB_size (n := c.least - c.have_) (by omega) (by omega)
      go_wp2_with (go_at_call 25; refine (Itoa_any _ _ (by omega) (by omega) (HT.out.below hb3)).mono ?_; rintro e w4 ⟨rfl, hb4⟩)
      go_ret2
      rw [ptx_lo HP.out hd]
      exact ⟨rfl, below_step B3 hb4 (Nat.le_refl _)⟩
    · go_wp2_with fail
      go_ret2
      rw [ptx_hi HP.out (by omega)]
      exact ⟨rfl, B3⟩
set_option maxRecDepth 100000 in
set_option maxHeartbeats 4000000 in
theorem PartsLine_spec (c : Part) (w : World) (hs : c.Ok) :
    Calls Tryd.prog 6 #[.agg #[.string c.name, .int .i64 c.have_, .int .i64 c.least, .int .i64 c.lead, .int .i64 c.price]] w fun e w' => e = .returned (.tuple #[.string (ptxV c), .bool (stockB c)]) ∧ Below w.heap.size w w' := by
  have hba : Below w.heap.size w (w.alloc (.cells #[.string c.name, .int .i64 c.have_, .int .i64 c.least, .int .i64 c.lead, .int .i64 c.price] 27)) := (Below.refl _ _).alloc (Nat.le_refl _) _
  have hbx := hide (fun d => Part.box_after w c 27 d)
  cases hp : stockB c
  · have HP := hide hp; clear hp
    go_enter Tryd.func6, Tryd.ntmps6
    go_wp2_with (go_at_call 22; refine (l23One_is (c := c) HP.out _ hs).mono ?_; rintro e w1 ⟨rfl, hb1⟩)
    go_ret2
    rw [ptx_no HP.out]
    exact ⟨rfl, below_step hba hb1 (Nat.le_refl _)⟩
  · have HP := hide hp; clear hp
    obtain ⟨⟨n0, n1⟩, ⟨e0, e1⟩, hw10⟩ := stockB_nums HP.out
    have s1 := numB_size (n := c.have_) (by omega) (by omega)
    have s2 := numB_size (n := c.least) (by omega) (by omega)
    go_enter Tryd.func6, Tryd.ntmps6
    go_wp2_with (go_at_call 22; refine (l23One_is (c := c) HP.out _ hs).mono ?_; rintro e w1 ⟨rfl, hb1⟩)
    have B1 := below_step hba hb1 (Nat.le_refl _)
    obtain ⟨z0, z1, z2, z3, z4⟩ := hbx.out ⟨_, hb1⟩
    have a0 := after_cell z0; have a1 := after_cell z1; have a2 := after_cell z2
    refine wp_region_after (by kernel_rfl) (by kernel_rfl) ?_
    repeat (go_big_quiet_step ((go_at_call 23; exact Calls.after (l1Num_any _ _ (by omega) (by omega)))))
    refine wpQuiet_nil ?_
    rintro _ ⟨⟨w3, hb3⟩, rfl⟩
    clear a0 a1 a2
    replace z0 := below_cell hb3 z0; replace z1 := below_cell hb3 z1; replace z2 := below_cell hb3 z2; replace z3 := below_cell hb3 z3; replace z4 := below_cell hb3 z4
    have B3 := below_step B1 hb3 (Nat.le_refl _)
    by_cases hd : c.have_ < c.least
    · have s3 := numB_size (n := c.least - c.have_) (by omega) (by omega)
      go_wp2_with (go_at_call 23; refine (l1Num_any _ _ (by omega) (by omega)).mono ?_; rintro e w4 ⟨rfl, hb4⟩)
      go_ret2
      rw [ptx_lo HP.out hd]; rw [← ba_assoc]
      exact ⟨rfl, below_step B3 hb4 (Nat.le_refl _)⟩
    · go_wp2_with fail
      go_ret2
      rw [ptx_hi HP.out (by omega)]
      exact ⟨rfl, B3⟩
end Go.Proofs.YtlphegjhkchglaaDoor
