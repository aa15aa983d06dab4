/- The law FnExactPutShift: for every input its call returns true and changes nothing that was there. No condition. -/
import Derived.Test.YtfaicjlpncidgaaPut5
import Derived.Test.YtfaicjlpncidgaaOpen
import Derived.Deep.RegionHeldLaw
namespace Go.Proofs.Ytfaicjlpncidgaa.lawExactPutShift
open Go Go.RowKit
set_option linter.unusedVariables false
set_option maxRecDepth 100000 in
set_option maxHeartbeats 2000000 in
theorem walk (a0 : List Worker) (A0 : Option Addr) (c0 : Nat) (a1 : List Shift) (A1 : Option Addr) (c1 : Nat) (a2 : Shift) (w : World) (r0 : Rd Worker.enc 4 w.heap.size w A0 a0) (ok0 : ∀ c ∈ a0, c.Ok) (f0 : ∀ c ∈ a0, c.Fits) (l0 : a0.length ≤ maxLen) (r1 : Rd Shift.enc 4 w.heap.size w A1 a1) (ok1 : ∀ c ∈ a1, c.Ok) (f1 : ∀ c ∈ a1, c.Fits) (l1 : a1.length ≤ maxLen) (ok2 : a2.Ok) (f2 : a2.Fits) :
    Calls Try.prog 10 #[.slice A0 a0.length c0, .slice A1 a1.length c1, .agg #[.int .i64 a2.day, .int .i64 a2.part, .int .i64 a2.who, .int .i64 a2.duty]] w fun e w' => e = .returned (.bool true) ∧ Below w.heap.size w w' := by
  have B0 : Below w.heap.size w (w.alloc (.cells #[.int .i64 a2.day, .int .i64 a2.part, .int .i64 a2.who, .int .i64 a2.duty] 63)) := (Below.refl _ _).alloc (Nat.le_refl _) _
  have k2_0 : (w.alloc (.cells #[.int .i64 a2.day, .int .i64 a2.part, .int .i64 a2.who, .int .i64 a2.duty] 63)).cell? ⟨w.heap.size, 0, none⟩ = some (.int .i64 a2.day) := by simp
  have k2_1 : (w.alloc (.cells #[.int .i64 a2.day, .int .i64 a2.part, .int .i64 a2.who, .int .i64 a2.duty] 63)).cell? ⟨w.heap.size, 1, none⟩ = some (.int .i64 a2.part) := by simp
  have k2_2 : (w.alloc (.cells #[.int .i64 a2.day, .int .i64 a2.part, .int .i64 a2.who, .int .i64 a2.duty] 63)).cell? ⟨w.heap.size, 2, none⟩ = some (.int .i64 a2.who) := by simp
  have k2_3 : (w.alloc (.cells #[.int .i64 a2.day, .int .i64 a2.part, .int .i64 a2.who, .int .i64 a2.duty] 63)).cell? ⟨w.heap.size, 3, none⟩ = some (.int .i64 a2.duty) := by simp
  by_cases z0 : Worker.szS a0 (1048576) < 0
  · go_enter Try.func10, Try.ntmps10
    go_wp2_with fail
    refine (Worker.szS_any a0 A0 c0 _ _ (r0.later B0) (ok0) (l0) (by omega) (by omega)).mono ?_
    rintro e y1 ⟨rfl, x1⟩
    have X1 := below_step B0 x1 (Nat.le_refl _)
    replace k2_0 := below_cell x1 k2_0
    replace k2_1 := below_cell x1 k2_1
    replace k2_2 := below_cell x1 k2_2
    replace k2_3 := below_cell x1 k2_3
    go_wp2_with fail
    go_ret
    exact ⟨rfl, X1⟩
  obtain ⟨n0, m0, t0⟩ := Worker.szS_fit (L := a0) (left := 1048576) (by omega)
  by_cases z1 : Shift.szS a1 (Worker.szS a0 (1048576)) < 0
  · go_enter Try.func10, Try.ntmps10
    go_wp2_with fail
    refine (Worker.szS_any a0 A0 c0 _ _ (r0.later B0) (ok0) (l0) (by omega) (by omega)).mono ?_
    rintro e y1 ⟨rfl, x1⟩
    have X1 := below_step B0 x1 (Nat.le_refl _)
    replace k2_0 := below_cell x1 k2_0
    replace k2_1 := below_cell x1 k2_1
    replace k2_2 := below_cell x1 k2_2
    replace k2_3 := below_cell x1 k2_3
    go_wp2_with fail
    refine (Shift.szS_any a1 A1 c1 _ _ (l1) (by omega) (by omega)).mono ?_
    rintro e y2 ⟨rfl, x2⟩
    have X2 := below_step X1 x2 (Nat.le_refl _)
    replace k2_0 := below_cell x2 k2_0
    replace k2_1 := below_cell x2 k2_1
    replace k2_2 := below_cell x2 k2_2
    replace k2_3 := below_cell x2 k2_3
    go_wp2_with fail
    go_ret
    exact ⟨rfl, X2⟩
  obtain ⟨n1, m1⟩ := Shift.szS_fit (L := a1) (left := Worker.szS a0 (1048576)) (by omega)
  have nn0 : a0.length ≤ 1048576 := by omega
  have nn1 : a1.length ≤ 1048576 := by omega
  have hlen := putRL_len a0 a1 a2
  go_enter Try.func10, Try.ntmps10
  go_wp2_with fail
  refine (Worker.szS_any a0 A0 c0 _ _ (r0.later B0) (ok0) (l0) (by omega) (by omega)).mono ?_
  rintro e w1 ⟨rfl, b1⟩
  have B1 : Below w.heap.size w w1 := below_step B0 b1 (Nat.le_refl _)
  have S1 := B1.size
  have T1 : w.heap.size < w1.heap.size := by have hT := b1.size; simp at hT; omega
  replace k2_0 := below_cell b1 k2_0
  replace k2_1 := below_cell b1 k2_1
  replace k2_2 := below_cell b1 k2_2
  replace k2_3 := below_cell b1 k2_3
  go_wp2_with fail
  refine (Shift.szS_any a1 A1 c1 _ _ (l1) (by omega) (by omega)).mono ?_
  rintro e w2 ⟨rfl, b2⟩
  have B2 : Below w.heap.size w w2 := below_step B1 b2 (Nat.le_refl _)
  have S2 := b2.size
  replace k2_0 := below_cell b2 k2_0
  replace k2_1 := below_cell b2 k2_1
  replace k2_2 := below_cell b2 k2_2
  replace k2_3 := below_cell b2 k2_3
  go_wp2_with fail
  go_region_held_law (fun w' => w'.cell? ⟨w.heap.size, 0, none⟩ = some (.int .i64 a2.day) ∧ w'.cell? ⟨w.heap.size, 1, none⟩ = some (.int .i64 a2.part) ∧ w'.cell? ⟨w.heap.size, 2, none⟩ = some (.int .i64 a2.who) ∧ w'.cell? ⟨w.heap.size, 3, none⟩ = some (.int .i64 a2.duty)) (first | (refine ⟨?_, ?_, ?_, ?_⟩ <;> assumption) | go_keep) (first | (go_at_call 16; refine (Worker.toS_any a0 A0 c0 _ nn0 (r0.later B2.drew)).mono ?_; rintro e w3 ⟨rfl, o3, b3⟩; have B3 : Below w.heap.size w w3 := below_step B2.drew b3 (Nat.le_refl _); have S3 := B3.size; have s3 := b3.size; (try simp at s3); have k2_0 := below_cell b3 k2_0; have k2_1 := below_cell b3 k2_1; have k2_2 := below_cell b3 k2_2; have k2_3 := below_cell b3 k2_3) | (go_at_call 27; refine (Shift.toS_any a1 A1 c1 _ nn1 (r1.later B3)).mono ?_; rintro e w4 ⟨rfl, o4, b4⟩; have B4 : Below w.heap.size w w4 := below_step B3 b4 (Nat.le_refl _); have S4 := B4.size; have s4 := b4.size; (try simp at s4); have k2_0 := below_cell b4 k2_0; have k2_1 := below_cell b4 k2_1; have k2_2 := below_cell b4 k2_2; have k2_3 := below_cell b4 k2_3; have o3 := Own.below o3 b4) | (go_at_call 49; refine (Shift.to_any a2 _).mono ?_; rintro e w5 ⟨rfl, b5⟩; have B5 : Below w.heap.size w w5 := below_step B4 b5 (Nat.le_refl _); have S5 := B5.size; have s5 := b5.size; (try simp at s5); have k2_0 := below_cell b5 k2_0; have k2_1 := below_cell b5 k2_1; have k2_2 := below_cell b5 k2_2; have k2_3 := below_cell b5 k2_3; have o3 := Own.below o3 b5; have o4 := Own.below o4 b5) | (go_at_call 48; refine (PutShift_spec _ _ _ _ _ _ _ _ (Own.rd_of Worker.enc_len o3) (Own.rd_of Shift.enc_len o4) (ok0) (by unfold maxLen; omega) (by unfold maxLen; omega) (own_nilcap o4) (by first | exact Nat.le_refl _ | exact own_cap o4 | exact own_cap o4 rfl | exact own_cple o4 rfl)).mono ?_; rintro e w6 ⟨A6', c6', rfl, o6, b6⟩; have ho6 := o6; have B6 : Below w.heap.size w w6 := below_step B5 b6 (Nat.le_refl _); have S6 := b6.size; have k2_0 := below_cell b6 k2_0; have k2_1 := below_cell b6 k2_1; have k2_2 := below_cell b6 k2_2; have k2_3 := below_cell b6 k2_3))
  go_wp2_with fail
  refine (Worker.toS_any a0 A0 c0 _ nn0 (r0.later B6)).mono ?_
  rintro e w7 ⟨rfl, o7, b7⟩
  have ho7 := o7
  have B7 : Below w.heap.size w w7 := below_step B6 b7 (Nat.le_refl _)
  have S7 := b7.size
  replace k2_0 := below_cell b7 k2_0
  replace k2_1 := below_cell b7 k2_1
  replace k2_2 := below_cell b7 k2_2
  replace k2_3 := below_cell b7 k2_3
  replace o6 := Own.below o6 b7
  go_wp2_with fail
  refine (Shift.toS_any a1 A1 c1 _ nn1 (r1.later B7)).mono ?_
  rintro e w8 ⟨rfl, o8, b8⟩
  have ho8 := o8
  have B8 : Below w.heap.size w w8 := below_step B7 b8 (Nat.le_refl _)
  have S8 := b8.size
  replace k2_0 := below_cell b8 k2_0
  replace k2_1 := below_cell b8 k2_1
  replace k2_2 := below_cell b8 k2_2
  replace k2_3 := below_cell b8 k2_3
  replace o6 := Own.below o6 b8
  replace o7 := Own.below o7 b8
  go_wp2_with fail
  refine (Shift.to_any a2 _).mono ?_
  rintro e w9 ⟨rfl, b9⟩
  have B9 : Below w.heap.size w w9 := below_step B8 b9 (Nat.le_refl _)
  have S9 := b9.size
  replace k2_0 := below_cell b9 k2_0
  replace k2_1 := below_cell b9 k2_1
  replace k2_2 := below_cell b9 k2_2
  replace k2_3 := below_cell b9 k2_3
  replace o6 := Own.below o6 b9
  replace o7 := Own.below o7 b9
  replace o8 := Own.below o8 b9
  go_wp2_with fail
  refine (PutShift_any _ _ _ _ _ _ _ _ (Own.rd_of Worker.enc_len o7) (Own.rd_of Shift.enc_len o8) (ok0) (by unfold maxLen; omega) (by unfold maxLen; omega) (by first | exact Nat.le_refl _ | exact own_cap o8 | exact own_cap o8 rfl | exact own_cple o8 rfl)).mono ?_
  rintro e w10 ⟨A10', c10', rfl, o10, b10⟩
  have ho10 := o10
  have B10 : Below w.heap.size w w10 := below_step B9 b10 (Nat.le_refl _)
  have S10 := b10.size
  replace k2_0 := below_cell b10 k2_0
  replace k2_1 := below_cell b10 k2_1
  replace k2_2 := below_cell b10 k2_2
  replace k2_3 := below_cell b10 k2_3
  replace o6 := Own.below o6 b10
  replace o7 := Own.below o7 b10
  replace o8 := Own.below o8 b10
  go_wp2_with fail
  refine (Shift.eqS_same _ _ _ _ _ _ (by omega) (Own.rd_of Shift.enc_len o10) (Own.rd_of Shift.enc_len o6)).mono ?_
  rintro e w11 ⟨rfl, b11⟩
  have B11 : Below w.heap.size w w11 := below_step B10 b11 (Nat.le_refl _)
  have S11 := b11.size
  replace k2_0 := below_cell b11 k2_0
  replace k2_1 := below_cell b11 k2_1
  replace k2_2 := below_cell b11 k2_2
  replace k2_3 := below_cell b11 k2_3
  replace o6 := Own.below o6 b11
  replace o7 := Own.below o7 b11
  replace o8 := Own.below o8 b11
  replace o10 := Own.below o10 b11
  go_wp2_with fail
  refine (Worker.toS_any a0 A0 c0 _ nn0 (r0.later B11)).mono ?_
  rintro e w12 ⟨rfl, o12, b12⟩
  have ho12 := o12
  have B12 : Below w.heap.size w w12 := below_step B11 b12 (Nat.le_refl _)
  have S12 := b12.size
  replace k2_0 := below_cell b12 k2_0
  replace k2_1 := below_cell b12 k2_1
  replace k2_2 := below_cell b12 k2_2
  replace k2_3 := below_cell b12 k2_3
  replace o6 := Own.below o6 b12
  replace o7 := Own.below o7 b12
  replace o8 := Own.below o8 b12
  replace o10 := Own.below o10 b12
  go_wp2_with fail
  refine (Worker.eqS_same _ _ _ _ _ _ (by omega) (Own.rd_of Worker.enc_len o7) (Own.rd_of Worker.enc_len o12)).mono ?_
  rintro e w13 ⟨rfl, b13⟩
  have B13 : Below w.heap.size w w13 := below_step B12 b13 (Nat.le_refl _)
  have S13 := b13.size
  replace k2_0 := below_cell b13 k2_0
  replace k2_1 := below_cell b13 k2_1
  replace k2_2 := below_cell b13 k2_2
  replace k2_3 := below_cell b13 k2_3
  replace o6 := Own.below o6 b13
  replace o7 := Own.below o7 b13
  replace o8 := Own.below o8 b13
  replace o10 := Own.below o10 b13
  replace o12 := Own.below o12 b13
  go_wp2_with fail
  refine (Shift.toS_any a1 A1 c1 _ nn1 (r1.later B13)).mono ?_
  rintro e w14 ⟨rfl, o14, b14⟩
  have ho14 := o14
  have B14 : Below w.heap.size w w14 := below_step B13 b14 (Nat.le_refl _)
  have S14 := b14.size
  replace k2_0 := below_cell b14 k2_0
  replace k2_1 := below_cell b14 k2_1
  replace k2_2 := below_cell b14 k2_2
  replace k2_3 := below_cell b14 k2_3
  replace o6 := Own.below o6 b14
  replace o7 := Own.below o7 b14
  replace o8 := Own.below o8 b14
  replace o10 := Own.below o10 b14
  go_wp2_with fail
  refine (Shift.eqS_same _ _ _ _ _ _ (by omega) (Own.rd_of Shift.enc_len o8) (Own.rd_of Shift.enc_len o14)).mono ?_
  rintro e w15 ⟨rfl, b15⟩
  have B15 : Below w.heap.size w w15 := below_step B14 b15 (Nat.le_refl _)
  have S15 := b15.size
  replace k2_0 := below_cell b15 k2_0
  replace k2_1 := below_cell b15 k2_1
  replace k2_2 := below_cell b15 k2_2
  replace k2_3 := below_cell b15 k2_3
  replace o6 := Own.below o6 b15
  replace o7 := Own.below o7 b15
  replace o8 := Own.below o8 b15
  replace o10 := Own.below o10 b15
  replace o14 := Own.below o14 b15
  go_wp2_with fail
  refine (Worker.markS_any _ _ _ _ _ _ _ (by omega) (by omega) o7).mono ?_
  rintro e w16 ⟨rfl, o7', g16⟩
  replace o6 : Own _ _ _ _ w16 _ _ := World.ownsRow.kept o6 g16 (own_apart ho6 ho7 (by omega)).1
  replace o8 : Own _ _ _ _ w16 _ _ := World.ownsRow.kept o8 g16 (own_apart ho7 ho8 (by omega)).2
  replace o10 : Own _ _ _ _ w16 _ _ := World.ownsRow.kept o10 g16 (own_apart ho7 ho10 (by omega)).2
  have S16 := g16.size
  replace k2_0 := g16.cell k2_0 (by simpa using (fun hh => absurd (World.ownsRow.lt ho7 _ hh.symm).1 (by omega)))
  replace k2_1 := g16.cell k2_1 (by simpa using (fun hh => absurd (World.ownsRow.lt ho7 _ hh.symm).1 (by omega)))
  replace k2_2 := g16.cell k2_2 (by simpa using (fun hh => absurd (World.ownsRow.lt ho7 _ hh.symm).1 (by omega)))
  replace k2_3 := g16.cell k2_3 (by simpa using (fun hh => absurd (World.ownsRow.lt ho7 _ hh.symm).1 (by omega)))
  have B16 : Below w.heap.size w w16 := B15.grown g16 (by omega) (fun k hk => by have hh := World.ownsRow.lt ho7 k hk; omega)
  replace o7 := o7'
  go_wp2_with fail
  refine (Shift.markS_any _ _ _ _ _ _ _ (by omega) (by omega) o8).mono ?_
  rintro e w17 ⟨rfl, o8', g17⟩
  replace o6 : Own _ _ _ _ w17 _ _ := World.ownsRow.kept o6 g17 (own_apart ho6 ho8 (by omega)).1
  replace o10 : Own _ _ _ _ w17 _ _ := World.ownsRow.kept o10 g17 (own_apart ho8 ho10 (by omega)).2
  have S17 := g17.size
  replace k2_0 := g17.cell k2_0 (by simpa using (fun hh => absurd (World.ownsRow.lt ho8 _ hh.symm).1 (by omega)))
  replace k2_1 := g17.cell k2_1 (by simpa using (fun hh => absurd (World.ownsRow.lt ho8 _ hh.symm).1 (by omega)))
  replace k2_2 := g17.cell k2_2 (by simpa using (fun hh => absurd (World.ownsRow.lt ho8 _ hh.symm).1 (by omega)))
  replace k2_3 := g17.cell k2_3 (by simpa using (fun hh => absurd (World.ownsRow.lt ho8 _ hh.symm).1 (by omega)))
  have B17 : Below w.heap.size w w17 := B16.grown g17 (by omega) (fun k hk => by have hh := World.ownsRow.lt ho8 k hk; omega)
  replace o8 := o8'
  go_wp2_with fail
  refine (Shift.eqS_same _ _ _ _ _ _ (by omega) (Own.rd_of Shift.enc_len o10) (Own.rd_of Shift.enc_len o6)).mono ?_
  rintro e w18 ⟨rfl, b18⟩
  have B18 : Below w.heap.size w w18 := below_step B17 b18 (Nat.le_refl _)
  have S18 := b18.size
  replace k2_0 := below_cell b18 k2_0
  replace k2_1 := below_cell b18 k2_1
  replace k2_2 := below_cell b18 k2_2
  replace k2_3 := below_cell b18 k2_3
  replace o6 := Own.below o6 b18
  replace o10 := Own.below o10 b18
  go_wp2_with fail
  refine (Shift.markS_any _ _ _ _ _ _ _ (by omega) (by omega) o10).mono ?_
  rintro e w19 ⟨rfl, o10', g19⟩
  replace o6 : Own _ _ _ _ w19 _ _ := World.ownsRow.kept o6 g19 (own_apart ho6 ho10 (by omega)).1
  have S19 := g19.size
  replace k2_0 := g19.cell k2_0 (by simpa using (fun hh => absurd (World.ownsRow.lt ho10 _ hh.symm).1 (by omega)))
  replace k2_1 := g19.cell k2_1 (by simpa using (fun hh => absurd (World.ownsRow.lt ho10 _ hh.symm).1 (by omega)))
  replace k2_2 := g19.cell k2_2 (by simpa using (fun hh => absurd (World.ownsRow.lt ho10 _ hh.symm).1 (by omega)))
  replace k2_3 := g19.cell k2_3 (by simpa using (fun hh => absurd (World.ownsRow.lt ho10 _ hh.symm).1 (by omega)))
  have B19 : Below w.heap.size w w19 := B18.grown g19 (by omega) (fun k hk => by have hh := World.ownsRow.lt ho10 k hk; omega)
  replace o10 := o10'
  go_wp2_with fail
  refine (Shift.heldS_any _ _ _ _ _ (by omega) (by omega) (Own.rd_of Shift.enc_len o10)).mono ?_
  rintro e w20 ⟨rfl, b20⟩
  have B20 : Below w.heap.size w w20 := below_step B19 b20 (Nat.le_refl _)
  have S20 := b20.size
  replace k2_0 := below_cell b20 k2_0
  replace k2_1 := below_cell b20 k2_1
  replace k2_2 := below_cell b20 k2_2
  replace k2_3 := below_cell b20 k2_3
  replace o6 := Own.below o6 b20
  replace o10 := Own.below o10 b20
  go_wp2_with fail
  go_region_held_law (fun w' => w'.cell? ⟨w.heap.size, 0, none⟩ = some (.int .i64 a2.day) ∧ w'.cell? ⟨w.heap.size, 1, none⟩ = some (.int .i64 a2.part) ∧ w'.cell? ⟨w.heap.size, 2, none⟩ = some (.int .i64 a2.who) ∧ w'.cell? ⟨w.heap.size, 3, none⟩ = some (.int .i64 a2.duty)) (first | (refine ⟨?_, ?_, ?_, ?_⟩ <;> assumption) | go_keep) (first | (go_at_call 16; refine (Worker.toS_any a0 A0 c0 _ nn0 (r0.later B20.drew)).mono ?_; rintro e w21 ⟨rfl, o21, b21⟩; have B21 : Below w.heap.size w w21 := below_step B20.drew b21 (Nat.le_refl _); have S21 := B21.size; have s21 := b21.size; (try simp at s21); have k2_0 := below_cell b21 k2_0; have k2_1 := below_cell b21 k2_1; have k2_2 := below_cell b21 k2_2; have k2_3 := below_cell b21 k2_3; have o6 := Own.below (Own.below o6 (Below.refl _ _).drew) b21; have o10 := Own.below (Own.below o10 (Below.refl _ _).drew) b21) | (go_at_call 27; refine (Shift.toS_any a1 A1 c1 _ nn1 (r1.later B21)).mono ?_; rintro e w22 ⟨rfl, o22, b22⟩; have B22 : Below w.heap.size w w22 := below_step B21 b22 (Nat.le_refl _); have S22 := B22.size; have s22 := b22.size; (try simp at s22); have k2_0 := below_cell b22 k2_0; have k2_1 := below_cell b22 k2_1; have k2_2 := below_cell b22 k2_2; have k2_3 := below_cell b22 k2_3; have o21 := Own.below o21 b22; have o6 := Own.below o6 b22; have o10 := Own.below o10 b22) | (go_at_call 49; refine (Shift.to_any a2 _).mono ?_; rintro e w23 ⟨rfl, b23⟩; have B23 : Below w.heap.size w w23 := below_step B22 b23 (Nat.le_refl _); have S23 := B23.size; have s23 := b23.size; (try simp at s23); have k2_0 := below_cell b23 k2_0; have k2_1 := below_cell b23 k2_1; have k2_2 := below_cell b23 k2_2; have k2_3 := below_cell b23 k2_3; have o21 := Own.below o21 b23; have o22 := Own.below o22 b23; have o6 := Own.below o6 b23; have o10 := Own.below o10 b23) | (go_at_call 50; refine (PutShift_any _ _ _ _ _ _ _ _ (Own.rd_of Worker.enc_len o21) (Own.rd_of Shift.enc_len o22) (ok0) (by unfold maxLen; omega) (by unfold maxLen; omega) (by first | exact Nat.le_refl _ | exact own_cap o22 | exact own_cap o22 rfl | exact own_cple o22 rfl)).mono ?_; rintro e w24 ⟨A24', c24', rfl, o24, b24⟩; have ho24 := o24; have B24 : Below w.heap.size w w24 := below_step B23 b24 (Nat.le_refl _); have S24 := b24.size; have k2_0 := below_cell b24 k2_0; have k2_1 := below_cell b24 k2_1; have k2_2 := below_cell b24 k2_2; have k2_3 := below_cell b24 k2_3; have o6 := Own.below o6 b24; have o10 := Own.below o10 b24))
  go_wp2_with fail
  refine (Shift.eqS_same _ _ _ _ _ _ (by omega) (Own.rd_of Shift.enc_len o24) (Own.rd_of Shift.enc_len o6)).mono ?_
  rintro e w25 ⟨rfl, b25⟩
  have B25 : Below w.heap.size w w25 := below_step B24 b25 (Nat.le_refl _)
  have S25 := b25.size
  replace k2_0 := below_cell b25 k2_0
  replace k2_1 := below_cell b25 k2_1
  replace k2_2 := below_cell b25 k2_2
  replace k2_3 := below_cell b25 k2_3
  replace o6 := Own.below o6 b25
  replace o10 := Own.below o10 b25
  replace o24 := Own.below o24 b25
  go_wp2_with fail
  refine (Shift.heldS_any _ _ _ _ _ (by omega) (by omega) (Own.rd_of Shift.enc_len o10)).mono ?_
  rintro e w26 ⟨rfl, b26⟩
  have B26 : Below w.heap.size w w26 := below_step B25 b26 (Nat.le_refl _)
  have S26 := b26.size
  replace k2_0 := below_cell b26 k2_0
  replace k2_1 := below_cell b26 k2_1
  replace k2_2 := below_cell b26 k2_2
  replace k2_3 := below_cell b26 k2_3
  replace o6 := Own.below o6 b26
  replace o10 := Own.below o10 b26
  replace o24 := Own.below o24 b26
  go_wp2_with fail
  go_ret
  exact ⟨rfl, B26⟩
open Go.ChangeShapes Go.WideShapes Go.ChangeAt Go.RowKit
open Go.ChangeMaps (open_string shut_string)
set_option maxRecDepth 100000 in
theorem lifted (os : Os) (started : os.Started) (H : Type) (enc : TypeId × Value → H) :
    ReturnsInHanded {} Try.checked os 10 .any (Rows.fnExactPutShiftSpec.pre6 enc Try.prog Try.f10 Rows.fnExactPutShiftRow.domain false) (Rows.fnExactPutShiftSpec.post enc Try.prog Try.f10 false true false false) := by
  refine returnsInHanded_of_change (C := Try.checked) own started (by kernel_rfl) Try.func10
    (ChangeSpec.witness6 (enc := enc) (C := Try.checked) false ⟨#[], #[.slice none 0 0, .slice none 0 0, .agg #[.int .i64 0, .int .i64 0, .int .i64 0, .int .i64 0]], []⟩ 8 (by kernel_rfl) (by kernel_rfl) (by kernel_rfl) (by kernel_rfl)) ?_
  intro W base args ds gs before hval0 hW hcnd _
  have hval : ∀ (j : Nat) t v, Try.f10.params[j]? = some t → args[j]? = some v → Value.okWide Try.prog W .any base t v := hval0
  have hW' := hW
  obtain ⟨p, q, hA0, hV, rfl, hfz, hnd⟩ := hW
  have hA : DataW.TrodAll enc Try.prog W 0 (fun _ => true) true Try.f10.params.toList args.toList ds p := hA0
  rw [Try.params10] at hA hval
  obtain ⟨v0, vs0, d0, ds0, p0, q0, hargs, rfl, rfl, h0, e0⟩ := trodAll_cons hA
  obtain ⟨v1, vs1, d1, ds1, p1, q1, rfl, rfl, rfl, h1, e1⟩ := trodAll_cons e0
  obtain ⟨v2, vs2, d2, ds2, p2, q2, rfl, rfl, rfl, h2, e2⟩ := trodAll_cons e1
  obtain ⟨rfl, rfl, rfl⟩ := trodAll_nil e2
  obtain rfl : args = #[v0, v1, v2] := by cases args; simp_all
  obtain ⟨rfl, rfl⟩ := trodVars_none hV
  have k0 := h0
  have lt0 : ∀ x ∈ p0, x.block < W.heap.size := by obtain ⟨m, hm⟩ := k0; exact DataW.trod_lt m _ _ _ hm
  obtain ⟨A0, len0, c0, rfl⟩ := okWide_slice Try.underlying22 (hval 0 22 v0 rfl rfl)
  obtain ⟨fu0, hf0⟩ := h0
  obtain ⟨L0, rfl, r0, g0, l0⟩ := open_list (encα := Worker.enc) (m := 4) (Good := fun c => c.Ok ∧ c.Fits) Try.underlying22 (by kernel_rfl) (by decide) Worker.enc_len Worker.el hf0
  have k1 := h1
  have lt1 : ∀ x ∈ p1, x.block < W.heap.size := by obtain ⟨m, hm⟩ := k1; exact DataW.trod_lt m _ _ _ hm
  obtain ⟨A1, len1, c1, rfl⟩ := okWide_slice Try.underlying35 (hval 1 35 v1 rfl rfl)
  obtain ⟨fu1, hf1⟩ := h1
  obtain ⟨L1, rfl, r1, g1, l1⟩ := open_list (encα := Shift.enc) (m := 4) (Good := fun c => c.Ok ∧ c.Fits) Try.underlying35 (by kernel_rfl) (by decide) Shift.enc_len Shift.el hf1
  have k2 := h2
  have lt2 : ∀ x ∈ p2, x.block < W.heap.size := by obtain ⟨m, hm⟩ := k2; exact DataW.trod_lt m _ _ _ hm
  obtain ⟨a2, rfl, g2⟩ := open_struct (encα := Shift.enc) (Good := fun c => c.Ok ∧ c.Fits) Try.underlying63 Shift.el (hval 2 63 v2 rfl rfl) h2
  clear hA0 hval0
  refine (walk L0 A0 c0 L1 A1 c1 a2 W r0 (fun c hc => (g0 c hc).1) (fun c hc => (g0 c hc).2) l0 r1 (fun c hc => (g1 c hc).1) (fun c hc => (g1 c hc).2) l1 g2.1 g2.2).mono fun e W' ⟨he, bel⟩ => ?_
  subst he
  exact ⟨_, rfl, _, _, _, [], _, [], hW', trodAll_mk1 (shut_bool Try.underlying4 _), (trodAll_cons_mk (Below.trod laidOut (by kernel_rfl) (of_decide_eq_true (by kernel_rfl)) k0 bel lt0) (trodAll_cons_mk (Below.trod laidOut (by kernel_rfl) (of_decide_eq_true (by kernel_rfl)) k1 bel lt1) (trodAll_cons_mk (Below.trod laidOut (by kernel_rfl) (of_decide_eq_true (by kernel_rfl)) k2 bel lt2) trodAll_mk0))), rfl, bel.frame _, fun h => by cases h⟩
theorem over : Rows.fnExactPutShiftRow.holds Try.pinned (OpenSpec.ofChange Rows.fnExactPutShiftSpec) :=
  OpenClaim.holds_of_wide 10 Try.f10 rfl rfl rfl rfl rfl rfl rfl ⟨rfl, rfl, rfl, rfl, rfl⟩ rfl rfl rfl rfl rfl (by kernel_rfl) Try.func10 (by kernel_rfl)
    (of_decide_eq_true (by kernel_rfl)) (by unfold Func.isWrapper; first | (rw [if_pos (by decide +kernel)]; kernel_rfl) | (rw [if_neg (by decide +kernel)]; exact ⟨rfl, rfl⟩))
    (fun os started H enc _ => lifted os started H enc)
theorem proved : Rows.FnExactPutShiftSaid := over
#print axioms proved
end Go.Proofs.Ytfaicjlpncidgaa.lawExactPutShift
