/- The law FnExactAddCondition: for every input its call returns true and changes nothing that was there. No condition. -/
import Derived.Test.YtknondhdhjegbaaAddI
import Derived.Test.YtknondhdhjegbaaOpen
import Derived.Deep.RegionHeldLaw
namespace Go.Proofs.Ytknondhdhjegbaa.lawExactAddCondition
open Go Go.RowKit
set_option linter.unusedVariables false
set_option maxRecDepth 100000 in
set_option maxHeartbeats 2000000 in
theorem walk (a0 : List Condition) (A0 : Option Addr) (c0 : Nat) (a1 : Condition) (w : World) (r0 : Rd Condition.enc 5 w.heap.size w A0 a0) (ok0 : ∀ c ∈ a0, c.Ok) (f0 : ∀ c ∈ a0, c.Fits) (l0 : a0.length ≤ maxLen) (ok1 : a1.Ok) (f1 : a1.Fits) :
    Calls Try.prog 10 #[.slice A0 a0.length c0, .agg #[.int .i64 a1.number, .string a1.what, .int .i64 a1.every, .int .i64 a1.last, .int .i64 a1.grade]] w fun e w' => e = .returned (.bool true) ∧ Below w.heap.size w w' := by
  have B0 : Below w.heap.size w (w.alloc (.cells #[.int .i64 a1.number, .string a1.what, .int .i64 a1.every, .int .i64 a1.last, .int .i64 a1.grade] 23)) := (Below.refl _ _).alloc (Nat.le_refl _) _
  have k1_0 : (w.alloc (.cells #[.int .i64 a1.number, .string a1.what, .int .i64 a1.every, .int .i64 a1.last, .int .i64 a1.grade] 23)).cell? ⟨w.heap.size, 0, none⟩ = some (.int .i64 a1.number) := by simp
  have k1_1 : (w.alloc (.cells #[.int .i64 a1.number, .string a1.what, .int .i64 a1.every, .int .i64 a1.last, .int .i64 a1.grade] 23)).cell? ⟨w.heap.size, 1, none⟩ = some (.string a1.what) := by simp
  have k1_2 : (w.alloc (.cells #[.int .i64 a1.number, .string a1.what, .int .i64 a1.every, .int .i64 a1.last, .int .i64 a1.grade] 23)).cell? ⟨w.heap.size, 2, none⟩ = some (.int .i64 a1.every) := by simp
  have k1_3 : (w.alloc (.cells #[.int .i64 a1.number, .string a1.what, .int .i64 a1.every, .int .i64 a1.last, .int .i64 a1.grade] 23)).cell? ⟨w.heap.size, 3, none⟩ = some (.int .i64 a1.last) := by simp
  have k1_4 : (w.alloc (.cells #[.int .i64 a1.number, .string a1.what, .int .i64 a1.every, .int .i64 a1.last, .int .i64 a1.grade] 23)).cell? ⟨w.heap.size, 4, none⟩ = some (.int .i64 a1.grade) := by simp
  by_cases z0 : Condition.szS a0 (1048576) < 0
  · go_enter Try.func10, Try.ntmps10
    go_wp2_with fail
    refine (Condition.szS_any a0 A0 c0 _ _ (r0.later B0) (ok0) (l0) (by omega) (by omega)).mono ?_
    rintro e y1 ⟨rfl, x1⟩
    have X1 := below_step B0 x1 (Nat.le_refl _)
    replace k1_0 := below_cell x1 k1_0
    replace k1_1 := below_cell x1 k1_1
    replace k1_2 := below_cell x1 k1_2
    replace k1_3 := below_cell x1 k1_3
    replace k1_4 := below_cell x1 k1_4
    go_wp2_with fail
    go_ret
    exact ⟨rfl, X1⟩
  obtain ⟨n0, m0, t0⟩ := Condition.szS_fit (L := a0) (left := 1048576) (by omega)
  by_cases z1 : Condition.sz1 a1 (Condition.szS a0 (1048576)) < 0
  · go_enter Try.func10, Try.ntmps10
    go_wp2_with fail
    refine (Condition.szS_any a0 A0 c0 _ _ (r0.later B0) (ok0) (l0) (by omega) (by omega)).mono ?_
    rintro e y1 ⟨rfl, x1⟩
    have X1 := below_step B0 x1 (Nat.le_refl _)
    replace k1_0 := below_cell x1 k1_0
    replace k1_1 := below_cell x1 k1_1
    replace k1_2 := below_cell x1 k1_2
    replace k1_3 := below_cell x1 k1_3
    replace k1_4 := below_cell x1 k1_4
    go_wp2_with fail
    refine (Condition.sz1_any a1 _ _ (ok1) (by omega) (by omega)).mono ?_
    rintro e y2 ⟨rfl, x2⟩
    have X2 := below_step X1 x2 (Nat.le_refl _)
    replace k1_0 := below_cell x2 k1_0
    replace k1_1 := below_cell x2 k1_1
    replace k1_2 := below_cell x2 k1_2
    replace k1_3 := below_cell x2 k1_3
    replace k1_4 := below_cell x2 k1_4
    go_wp2_with fail
    go_ret
    exact ⟨rfl, X2⟩
  have t1 := Condition.sz1_fit (c := a1) (left := Condition.szS a0 (1048576)) (by omega)
  have nn0 : a0.length ≤ 1048576 := by omega
  have hlen := addCV_len a0 a1
  go_enter Try.func10, Try.ntmps10
  go_wp2_with fail
  refine (Condition.szS_any a0 A0 c0 _ _ (r0.later B0) (ok0) (l0) (by omega) (by omega)).mono ?_
  rintro e w1 ⟨rfl, b1⟩
  have B1 : Below w.heap.size w w1 := below_step B0 b1 (Nat.le_refl _)
  have S1 := B1.size
  have T1 : w.heap.size < w1.heap.size := by have hT := b1.size; simp at hT; omega
  replace k1_0 := below_cell b1 k1_0
  replace k1_1 := below_cell b1 k1_1
  replace k1_2 := below_cell b1 k1_2
  replace k1_3 := below_cell b1 k1_3
  replace k1_4 := below_cell b1 k1_4
  go_wp2_with fail
  refine (Condition.sz1_any a1 _ _ (ok1) (by omega) (by omega)).mono ?_
  rintro e w2 ⟨rfl, b2⟩
  have B2 : Below w.heap.size w w2 := below_step B1 b2 (Nat.le_refl _)
  have S2 := b2.size
  replace k1_0 := below_cell b2 k1_0
  replace k1_1 := below_cell b2 k1_1
  replace k1_2 := below_cell b2 k1_2
  replace k1_3 := below_cell b2 k1_3
  replace k1_4 := below_cell b2 k1_4
  go_wp2_with fail
  go_region_held_law (fun w' => w'.cell? ⟨w.heap.size, 0, none⟩ = some (.int .i64 a1.number) ∧ w'.cell? ⟨w.heap.size, 1, none⟩ = some (.string a1.what) ∧ w'.cell? ⟨w.heap.size, 2, none⟩ = some (.int .i64 a1.every) ∧ w'.cell? ⟨w.heap.size, 3, none⟩ = some (.int .i64 a1.last) ∧ w'.cell? ⟨w.heap.size, 4, none⟩ = some (.int .i64 a1.grade)) (first | (refine ⟨?_, ?_, ?_, ?_, ?_⟩ <;> assumption) | go_keep) (first | (go_at_call 18; refine (Condition.toS_any a0 A0 c0 _ nn0 (r0.later B2.drew)).mono ?_; rintro e w3 ⟨rfl, o3, b3⟩; have B3 : Below w.heap.size w w3 := below_step B2.drew b3 (Nat.le_refl _); have S3 := B3.size; have s3 := b3.size; (try simp at s3); have k1_0 := below_cell b3 k1_0; have k1_1 := below_cell b3 k1_1; have k1_2 := below_cell b3 k1_2; have k1_3 := below_cell b3 k1_3; have k1_4 := below_cell b3 k1_4) | (go_at_call 14; refine (Condition.to_any a1 _).mono ?_; rintro e w4 ⟨rfl, b4⟩; have B4 : Below w.heap.size w w4 := below_step B3 b4 (Nat.le_refl _); have S4 := B4.size; have s4 := b4.size; (try simp at s4); have k1_0 := below_cell b4 k1_0; have k1_1 := below_cell b4 k1_1; have k1_2 := below_cell b4 k1_2; have k1_3 := below_cell b4 k1_3; have k1_4 := below_cell b4 k1_4; have o3 := Own.below o3 b4) | (go_at_call 41; refine (AddCondition_spec _ _ _ _ _ (Own.rd_of Condition.enc_len o3) (ok0) (ok1) (by unfold maxLen; omega) (own_nilcap o3) (by first | exact Nat.le_refl _ | exact own_cap o3 | exact own_cap o3 rfl | exact own_cple o3 rfl)).mono ?_; rintro e w5 ⟨A5', c5', rfl, o5, b5⟩; have ho5 := o5; have B5 : Below w.heap.size w w5 := below_step B4 b5 (Nat.le_refl _); have S5 := b5.size; have k1_0 := below_cell b5 k1_0; have k1_1 := below_cell b5 k1_1; have k1_2 := below_cell b5 k1_2; have k1_3 := below_cell b5 k1_3; have k1_4 := below_cell b5 k1_4))
  go_wp2_with fail
  refine (Condition.toS_any a0 A0 c0 _ nn0 (r0.later B5)).mono ?_
  rintro e w6 ⟨rfl, o6, b6⟩
  have ho6 := o6
  have B6 : Below w.heap.size w w6 := below_step B5 b6 (Nat.le_refl _)
  have S6 := b6.size
  replace k1_0 := below_cell b6 k1_0
  replace k1_1 := below_cell b6 k1_1
  replace k1_2 := below_cell b6 k1_2
  replace k1_3 := below_cell b6 k1_3
  replace k1_4 := below_cell b6 k1_4
  replace o5 := Own.below o5 b6
  go_wp2_with fail
  refine (Condition.to_any a1 _).mono ?_
  rintro e w7 ⟨rfl, b7⟩
  have B7 : Below w.heap.size w w7 := below_step B6 b7 (Nat.le_refl _)
  have S7 := b7.size
  replace k1_0 := below_cell b7 k1_0
  replace k1_1 := below_cell b7 k1_1
  replace k1_2 := below_cell b7 k1_2
  replace k1_3 := below_cell b7 k1_3
  replace k1_4 := below_cell b7 k1_4
  replace o5 := Own.below o5 b7
  replace o6 := Own.below o6 b7
  go_wp2_with fail
  refine (AddCondition_any _ _ _ _ _ (Own.rd_of Condition.enc_len o6) (ok0) (ok1) (by unfold maxLen; omega)).mono ?_
  rintro e w8 ⟨A8', c8', rfl, o8, b8⟩
  have ho8 := o8
  have B8 : Below w.heap.size w w8 := below_step B7 b8 (Nat.le_refl _)
  have S8 := b8.size
  replace k1_0 := below_cell b8 k1_0
  replace k1_1 := below_cell b8 k1_1
  replace k1_2 := below_cell b8 k1_2
  replace k1_3 := below_cell b8 k1_3
  replace k1_4 := below_cell b8 k1_4
  replace o5 := Own.below o5 b8
  replace o6 := Own.below o6 b8
  go_wp2_with fail
  refine (Condition.eqS_same _ _ _ _ _ _ (by omega) (Own.rd_of Condition.enc_len o8) (Own.rd_of Condition.enc_len o5)).mono ?_
  rintro e w9 ⟨rfl, b9⟩
  have B9 : Below w.heap.size w w9 := below_step B8 b9 (Nat.le_refl _)
  have S9 := b9.size
  replace k1_0 := below_cell b9 k1_0
  replace k1_1 := below_cell b9 k1_1
  replace k1_2 := below_cell b9 k1_2
  replace k1_3 := below_cell b9 k1_3
  replace k1_4 := below_cell b9 k1_4
  replace o5 := Own.below o5 b9
  replace o6 := Own.below o6 b9
  replace o8 := Own.below o8 b9
  go_wp2_with fail
  refine (Condition.toS_any a0 A0 c0 _ nn0 (r0.later B9)).mono ?_
  rintro e w10 ⟨rfl, o10, b10⟩
  have ho10 := o10
  have B10 : Below w.heap.size w w10 := below_step B9 b10 (Nat.le_refl _)
  have S10 := b10.size
  replace k1_0 := below_cell b10 k1_0
  replace k1_1 := below_cell b10 k1_1
  replace k1_2 := below_cell b10 k1_2
  replace k1_3 := below_cell b10 k1_3
  replace k1_4 := below_cell b10 k1_4
  replace o5 := Own.below o5 b10
  replace o6 := Own.below o6 b10
  replace o8 := Own.below o8 b10
  go_wp2_with fail
  refine (Condition.eqS_same _ _ _ _ _ _ (by omega) (Own.rd_of Condition.enc_len o6) (Own.rd_of Condition.enc_len o10)).mono ?_
  rintro e w11 ⟨rfl, b11⟩
  have B11 : Below w.heap.size w w11 := below_step B10 b11 (Nat.le_refl _)
  have S11 := b11.size
  replace k1_0 := below_cell b11 k1_0
  replace k1_1 := below_cell b11 k1_1
  replace k1_2 := below_cell b11 k1_2
  replace k1_3 := below_cell b11 k1_3
  replace k1_4 := below_cell b11 k1_4
  replace o5 := Own.below o5 b11
  replace o6 := Own.below o6 b11
  replace o8 := Own.below o8 b11
  replace o10 := Own.below o10 b11
  go_wp2_with fail
  refine (Condition.markS_any _ _ _ _ _ _ _ (by omega) (by omega) o6).mono ?_
  rintro e w12 ⟨rfl, o6', g12⟩
  replace o5 : Own _ _ _ _ w12 _ _ := World.ownsRow.kept o5 g12 (own_apart ho5 ho6 (by omega)).1
  replace o8 : Own _ _ _ _ w12 _ _ := World.ownsRow.kept o8 g12 (own_apart ho6 ho8 (by omega)).2
  have S12 := g12.size
  replace k1_0 := g12.cell k1_0 (by simpa using (fun hh => absurd (World.ownsRow.lt ho6 _ hh.symm).1 (by omega)))
  replace k1_1 := g12.cell k1_1 (by simpa using (fun hh => absurd (World.ownsRow.lt ho6 _ hh.symm).1 (by omega)))
  replace k1_2 := g12.cell k1_2 (by simpa using (fun hh => absurd (World.ownsRow.lt ho6 _ hh.symm).1 (by omega)))
  replace k1_3 := g12.cell k1_3 (by simpa using (fun hh => absurd (World.ownsRow.lt ho6 _ hh.symm).1 (by omega)))
  replace k1_4 := g12.cell k1_4 (by simpa using (fun hh => absurd (World.ownsRow.lt ho6 _ hh.symm).1 (by omega)))
  have B12 : Below w.heap.size w w12 := B11.grown g12 (by omega) (fun k hk => by have hh := World.ownsRow.lt ho6 k hk; omega)
  replace o6 := o6'
  go_wp2_with fail
  refine (Condition.eqS_same _ _ _ _ _ _ (by omega) (Own.rd_of Condition.enc_len o8) (Own.rd_of Condition.enc_len o5)).mono ?_
  rintro e w13 ⟨rfl, b13⟩
  have B13 : Below w.heap.size w w13 := below_step B12 b13 (Nat.le_refl _)
  have S13 := b13.size
  replace k1_0 := below_cell b13 k1_0
  replace k1_1 := below_cell b13 k1_1
  replace k1_2 := below_cell b13 k1_2
  replace k1_3 := below_cell b13 k1_3
  replace k1_4 := below_cell b13 k1_4
  replace o5 := Own.below o5 b13
  replace o8 := Own.below o8 b13
  go_wp2_with fail
  refine (Condition.markS_any _ _ _ _ _ _ _ (by omega) (by omega) o8).mono ?_
  rintro e w14 ⟨rfl, o8', g14⟩
  replace o5 : Own _ _ _ _ w14 _ _ := World.ownsRow.kept o5 g14 (own_apart ho5 ho8 (by omega)).1
  have S14 := g14.size
  replace k1_0 := g14.cell k1_0 (by simpa using (fun hh => absurd (World.ownsRow.lt ho8 _ hh.symm).1 (by omega)))
  replace k1_1 := g14.cell k1_1 (by simpa using (fun hh => absurd (World.ownsRow.lt ho8 _ hh.symm).1 (by omega)))
  replace k1_2 := g14.cell k1_2 (by simpa using (fun hh => absurd (World.ownsRow.lt ho8 _ hh.symm).1 (by omega)))
  replace k1_3 := g14.cell k1_3 (by simpa using (fun hh => absurd (World.ownsRow.lt ho8 _ hh.symm).1 (by omega)))
  replace k1_4 := g14.cell k1_4 (by simpa using (fun hh => absurd (World.ownsRow.lt ho8 _ hh.symm).1 (by omega)))
  have B14 : Below w.heap.size w w14 := B13.grown g14 (by omega) (fun k hk => by have hh := World.ownsRow.lt ho8 k hk; omega)
  replace o8 := o8'
  go_wp2_with fail
  refine (Condition.heldS_any _ _ _ _ _ (by omega) (by omega) (Own.rd_of Condition.enc_len o8)).mono ?_
  rintro e w15 ⟨rfl, b15⟩
  have B15 : Below w.heap.size w w15 := below_step B14 b15 (Nat.le_refl _)
  have S15 := b15.size
  replace k1_0 := below_cell b15 k1_0
  replace k1_1 := below_cell b15 k1_1
  replace k1_2 := below_cell b15 k1_2
  replace k1_3 := below_cell b15 k1_3
  replace k1_4 := below_cell b15 k1_4
  replace o5 := Own.below o5 b15
  replace o8 := Own.below o8 b15
  go_wp2_with fail
  go_region_held_law (fun w' => w'.cell? ⟨w.heap.size, 0, none⟩ = some (.int .i64 a1.number) ∧ w'.cell? ⟨w.heap.size, 1, none⟩ = some (.string a1.what) ∧ w'.cell? ⟨w.heap.size, 2, none⟩ = some (.int .i64 a1.every) ∧ w'.cell? ⟨w.heap.size, 3, none⟩ = some (.int .i64 a1.last) ∧ w'.cell? ⟨w.heap.size, 4, none⟩ = some (.int .i64 a1.grade)) (first | (refine ⟨?_, ?_, ?_, ?_, ?_⟩ <;> assumption) | go_keep) (first | (go_at_call 18; refine (Condition.toS_any a0 A0 c0 _ nn0 (r0.later B15.drew)).mono ?_; rintro e w16 ⟨rfl, o16, b16⟩; have B16 : Below w.heap.size w w16 := below_step B15.drew b16 (Nat.le_refl _); have S16 := B16.size; have s16 := b16.size; (try simp at s16); have k1_0 := below_cell b16 k1_0; have k1_1 := below_cell b16 k1_1; have k1_2 := below_cell b16 k1_2; have k1_3 := below_cell b16 k1_3; have k1_4 := below_cell b16 k1_4; have o5 := Own.below (Own.below o5 (Below.refl _ _).drew) b16; have o8 := Own.below (Own.below o8 (Below.refl _ _).drew) b16) | (go_at_call 14; refine (Condition.to_any a1 _).mono ?_; rintro e w17 ⟨rfl, b17⟩; have B17 : Below w.heap.size w w17 := below_step B16 b17 (Nat.le_refl _); have S17 := B17.size; have s17 := b17.size; (try simp at s17); have k1_0 := below_cell b17 k1_0; have k1_1 := below_cell b17 k1_1; have k1_2 := below_cell b17 k1_2; have k1_3 := below_cell b17 k1_3; have k1_4 := below_cell b17 k1_4; have o16 := Own.below o16 b17; have o5 := Own.below o5 b17; have o8 := Own.below o8 b17) | (go_at_call 42; refine (AddCondition_any _ _ _ _ _ (Own.rd_of Condition.enc_len o16) (ok0) (ok1) (by unfold maxLen; omega)).mono ?_; rintro e w18 ⟨A18', c18', rfl, o18, b18⟩; have ho18 := o18; have B18 : Below w.heap.size w w18 := below_step B17 b18 (Nat.le_refl _); have S18 := b18.size; have k1_0 := below_cell b18 k1_0; have k1_1 := below_cell b18 k1_1; have k1_2 := below_cell b18 k1_2; have k1_3 := below_cell b18 k1_3; have k1_4 := below_cell b18 k1_4; have o5 := Own.below o5 b18; have o8 := Own.below o8 b18))
  go_wp2_with fail
  refine (Condition.eqS_same _ _ _ _ _ _ (by omega) (Own.rd_of Condition.enc_len o18) (Own.rd_of Condition.enc_len o5)).mono ?_
  rintro e w19 ⟨rfl, b19⟩
  have B19 : Below w.heap.size w w19 := below_step B18 b19 (Nat.le_refl _)
  have S19 := b19.size
  replace k1_0 := below_cell b19 k1_0
  replace k1_1 := below_cell b19 k1_1
  replace k1_2 := below_cell b19 k1_2
  replace k1_3 := below_cell b19 k1_3
  replace k1_4 := below_cell b19 k1_4
  replace o5 := Own.below o5 b19
  replace o8 := Own.below o8 b19
  replace o18 := Own.below o18 b19
  go_wp2_with fail
  refine (Condition.heldS_any _ _ _ _ _ (by omega) (by omega) (Own.rd_of Condition.enc_len o8)).mono ?_
  rintro e w20 ⟨rfl, b20⟩
  have B20 : Below w.heap.size w w20 := below_step B19 b20 (Nat.le_refl _)
  have S20 := b20.size
  replace k1_0 := below_cell b20 k1_0
  replace k1_1 := below_cell b20 k1_1
  replace k1_2 := below_cell b20 k1_2
  replace k1_3 := below_cell b20 k1_3
  replace k1_4 := below_cell b20 k1_4
  replace o5 := Own.below o5 b20
  replace o8 := Own.below o8 b20
  replace o18 := Own.below o18 b20
  go_wp2_with fail
  go_ret
  exact ⟨rfl, B20⟩
open Go.ChangeShapes Go.WideShapes Go.ChangeAt Go.RowKit
open Go.ChangeMaps (open_string shut_string)
set_option maxRecDepth 100000 in
theorem lifted (os : Os) (started : os.Started) (H : Type) (enc : TypeId × Value → H) :
    ReturnsInHanded {} Try.checked os 10 .any (Rows.fnExactAddConditionSpec.pre6 enc Try.prog Try.f10 Rows.fnExactAddConditionRow.domain false) (Rows.fnExactAddConditionSpec.post enc Try.prog Try.f10 false true false false) := by
  refine returnsInHanded_of_change (C := Try.checked) own started (by kernel_rfl) Try.func10
    (ChangeSpec.witness6 (enc := enc) (C := Try.checked) false ⟨#[], #[.slice none 0 0, .agg #[.int .i64 0, .string ⟨#[]⟩, .int .i64 0, .int .i64 0, .int .i64 0]], []⟩ 8 (by kernel_rfl) (by kernel_rfl) (by kernel_rfl) (by kernel_rfl)) ?_
  intro W base args ds gs before hval0 hW hcnd _
  have hval : ∀ (j : Nat) t v, Try.f10.params[j]? = some t → args[j]? = some v → Value.okWide Try.prog W .any base t v := hval0
  have hW' := hW
  obtain ⟨p, q, hA0, hV, rfl, hfz, hnd⟩ := hW
  have hA : DataW.TrodAll enc Try.prog W 0 (fun _ => true) true Try.f10.params.toList args.toList ds p := hA0
  rw [Try.params10] at hA hval
  obtain ⟨v0, vs0, d0, ds0, p0, q0, hargs, rfl, rfl, h0, e0⟩ := trodAll_cons hA
  obtain ⟨v1, vs1, d1, ds1, p1, q1, rfl, rfl, rfl, h1, e1⟩ := trodAll_cons e0
  obtain ⟨rfl, rfl, rfl⟩ := trodAll_nil e1
  obtain rfl : args = #[v0, v1] := by cases args; simp_all
  obtain ⟨rfl, rfl⟩ := trodVars_none hV
  have k0 := h0
  have lt0 : ∀ x ∈ p0, x.block < W.heap.size := by obtain ⟨m, hm⟩ := k0; exact DataW.trod_lt m _ _ _ hm
  obtain ⟨A0, len0, c0, rfl⟩ := okWide_slice Try.underlying29 (hval 0 29 v0 rfl rfl)
  obtain ⟨fu0, hf0⟩ := h0
  obtain ⟨L0, rfl, r0, g0, l0⟩ := open_list (encα := Condition.enc) (m := 5) (Good := fun c => c.Ok ∧ c.Fits) Try.underlying29 (by kernel_rfl) (by decide) Condition.enc_len Condition.el hf0
  have k1 := h1
  have lt1 : ∀ x ∈ p1, x.block < W.heap.size := by obtain ⟨m, hm⟩ := k1; exact DataW.trod_lt m _ _ _ hm
  obtain ⟨a1, rfl, g1⟩ := open_struct (encα := Condition.enc) (Good := fun c => c.Ok ∧ c.Fits) Try.underlying23 Condition.el (hval 1 23 v1 rfl rfl) h1
  clear hA0 hval0
  refine (walk L0 A0 c0 a1 W r0 (fun c hc => (g0 c hc).1) (fun c hc => (g0 c hc).2) l0 g1.1 g1.2).mono fun e W' ⟨he, bel⟩ => ?_
  subst he
  exact ⟨_, rfl, _, _, _, [], _, [], hW', trodAll_mk1 (shut_bool Try.underlying4 _), (trodAll_cons_mk (Below.trod laidOut (by kernel_rfl) (of_decide_eq_true (by kernel_rfl)) k0 bel lt0) (trodAll_cons_mk (Below.trod laidOut (by kernel_rfl) (of_decide_eq_true (by kernel_rfl)) k1 bel lt1) trodAll_mk0)), rfl, bel.frame _, fun h => by cases h⟩
theorem over : Rows.fnExactAddConditionRow.holds Try.pinned (OpenSpec.ofChange Rows.fnExactAddConditionSpec) :=
  OpenClaim.holds_of_wide 10 Try.f10 rfl rfl rfl rfl rfl rfl rfl ⟨rfl, rfl, rfl, rfl, rfl⟩ rfl rfl rfl rfl rfl (by kernel_rfl) Try.func10 (by kernel_rfl)
    (of_decide_eq_true (by kernel_rfl)) (by unfold Func.isWrapper; first | (rw [if_pos (by decide +kernel)]; kernel_rfl) | (rw [if_neg (by decide +kernel)]; exact ⟨rfl, rfl⟩))
    (fun os started H enc _ => lifted os started H enc)
theorem proved : Rows.FnExactAddConditionSaid := over
#print axioms proved
end Go.Proofs.Ytknondhdhjegbaa.lawExactAddCondition
