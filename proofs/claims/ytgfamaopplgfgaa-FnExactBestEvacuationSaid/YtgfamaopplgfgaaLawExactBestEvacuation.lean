/- The law FnExactBestEvacuation: for every input its call returns true and changes nothing that was there. No condition. -/
import Derived.Test.YtgfamaopplgfgaaBest
import Derived.Test.YtgfamaopplgfgaaToInt
import Derived.Test.YtgfamaopplgfgaaOpen
namespace Go.Proofs.Ytgfamaopplgfgaa.lawExactBestEvacuation
open Go Go.RowKit
set_option linter.unusedVariables false
set_option maxRecDepth 100000 in
set_option maxHeartbeats 2000000 in
theorem walk (a0 : List Support) (A0 : Option Addr) (c0 : Nat) (a1 : List Crew) (A1 : Option Addr) (c1 : Nat) (a2 : List Int) (A2 : Option Addr) (c2 : Nat) (w : World) (r0 : Rd Support.enc 3 w.heap.size w A0 a0) (ok0 : ∀ c ∈ a0, c.Ok) (f0 : ∀ c ∈ a0, c.Fits) (l0 : a0.length ≤ maxLen) (r1 : Rd Crew.enc 3 w.heap.size w A1 a1) (ok1 : ∀ c ∈ a1, c.Ok) (f1 : ∀ c ∈ a1, c.Fits) (l1 : a1.length ≤ maxLen) (r2 : Rd encI 1 w.heap.size w A2 a2) (f2 : ∀ n ∈ a2, (Lit.int .i64 n).wf = true) (l2 : a2.length ≤ maxLen) :
    Calls Try.prog 13 #[.slice A0 a0.length c0, .slice A1 a1.length c1, .slice A2 a2.length c2] w fun e w' => e = .returned (.bool true) ∧ Below w.heap.size w w' := by
  unfold maxLen at l2
  by_cases z2 : (1048576 : Int) < (a2.length : Int)
  · go_enter Try.func13, Try.ntmps13
    go_wp2_with fail
    go_ret
    exact ⟨rfl, Below.refl _ _⟩
  by_cases z0 : Support.szS a0 (1048576) < 0
  · go_enter Try.func13, Try.ntmps13
    go_wp2_with fail
    refine (Support.szS_any a0 A0 c0 _ _ (l0) (by omega) (by omega)).mono ?_
    rintro e y1 ⟨rfl, x1⟩
    have X1 := x1
    go_wp2_with fail
    go_ret
    exact ⟨rfl, X1⟩
  obtain ⟨n0, m0⟩ := Support.szS_fit (L := a0) (left := 1048576) (by omega)
  by_cases z1 : Crew.szS a1 (Support.szS a0 (1048576)) < 0
  · go_enter Try.func13, Try.ntmps13
    go_wp2_with fail
    refine (Support.szS_any a0 A0 c0 _ _ (l0) (by omega) (by omega)).mono ?_
    rintro e y1 ⟨rfl, x1⟩
    have X1 := x1
    go_wp2_with fail
    refine (Crew.szS_any a1 A1 c1 _ _ (l1) (by omega) (by omega)).mono ?_
    rintro e y2 ⟨rfl, x2⟩
    have X2 := below_step X1 x2 (Nat.le_refl _)
    go_wp2_with fail
    go_ret
    exact ⟨rfl, X2⟩
  obtain ⟨n1, m1⟩ := Crew.szS_fit (L := a1) (left := Support.szS a0 (1048576)) (by omega)
  have n2 : (a2.length : Int) ≤ 1048576 := by omega
  have nn0 : a0.length ≤ 1048576 := by omega
  have nn1 : a1.length ≤ 1048576 := by omega
  have nn2 : a2.length ≤ 1048576 := by omega
  have hlen := bestL_len a0 a1 a2
  go_enter Try.func13, Try.ntmps13
  go_wp2_with fail
  refine (Support.szS_any a0 A0 c0 _ _ (l0) (by omega) (by omega)).mono ?_
  rintro e w1 ⟨rfl, b1⟩
  have B1 : Below w.heap.size w w1 := b1
  have S1 := B1.size
  go_wp2_with fail
  refine (Crew.szS_any a1 A1 c1 _ _ (l1) (by omega) (by omega)).mono ?_
  rintro e w2 ⟨rfl, b2⟩
  have B2 : Below w.heap.size w w2 := below_step B1 b2 (Nat.le_refl _)
  have S2 := b2.size
  go_wp2_with fail
  refine (Support.toS_any a0 A0 c0 _ nn0 (r0.later B2)).mono ?_
  rintro e w3 ⟨rfl, o3, b3⟩
  have ho3 := o3
  have B3 : Below w.heap.size w w3 := below_step B2 b3 (Nat.le_refl _)
  have S3 := b3.size
  go_wp2_with fail
  refine (Crew.toS_any a1 A1 c1 _ nn1 (r1.later B3)).mono ?_
  rintro e w4 ⟨rfl, o4, b4⟩
  have ho4 := o4
  have B4 : Below w.heap.size w w4 := below_step B3 b4 (Nat.le_refl _)
  have S4 := b4.size
  replace o3 := Own.below o3 b4
  go_wp2_with fail
  refine (toIntS_any a2 A2 c2 _ nn2 (r2.later B4)).mono ?_
  rintro e w5 ⟨rfl, o5, b5⟩
  have ho5 := o5
  have B5 : Below w.heap.size w w5 := below_step B4 b5 (Nat.le_refl _)
  have S5 := b5.size
  replace o3 := Own.below o3 b5
  replace o4 := Own.below o4 b5
  go_wp2_with fail
  refine (BestEvacuation_spec _ _ _ _ _ _ _ _ _ _ (Own.rd_of Support.enc_len o3) (ok0) (by unfold maxLen; omega) (Own.rd_of Crew.enc_len o4) (by unfold maxLen; omega) (Own.rd_of encI_len o5) (by unfold maxLen; omega)).mono ?_
  rintro e w6 ⟨A6', c6', rfl, o6, b6⟩
  have ho6 := o6
  have B6 : Below w.heap.size w w6 := below_step B5 b6 (Nat.le_refl _)
  have S6 := b6.size
  replace o3 := Own.below o3 b6
  replace o4 := Own.below o4 b6
  replace o5 := Own.below o5 b6
  go_wp2_with fail
  refine (Support.toS_any a0 A0 c0 _ nn0 (r0.later B6)).mono ?_
  rintro e w7 ⟨rfl, o7, b7⟩
  have ho7 := o7
  have B7 : Below w.heap.size w w7 := below_step B6 b7 (Nat.le_refl _)
  have S7 := b7.size
  replace o6 := Own.below o6 b7
  go_wp2_with fail
  refine (Crew.toS_any a1 A1 c1 _ nn1 (r1.later B7)).mono ?_
  rintro e w8 ⟨rfl, o8, b8⟩
  have ho8 := o8
  have B8 : Below w.heap.size w w8 := below_step B7 b8 (Nat.le_refl _)
  have S8 := b8.size
  replace o6 := Own.below o6 b8
  replace o7 := Own.below o7 b8
  go_wp2_with fail
  refine (toIntS_any a2 A2 c2 _ nn2 (r2.later B8)).mono ?_
  rintro e w9 ⟨rfl, o9, b9⟩
  have ho9 := o9
  have B9 : Below w.heap.size w w9 := below_step B8 b9 (Nat.le_refl _)
  have S9 := b9.size
  replace o6 := Own.below o6 b9
  replace o7 := Own.below o7 b9
  replace o8 := Own.below o8 b9
  go_wp2_with fail
  refine (BestEvacuation_any _ _ _ _ _ _ _ _ _ _ (Own.rd_of Support.enc_len o7) (ok0) (by unfold maxLen; omega) (Own.rd_of Crew.enc_len o8) (by unfold maxLen; omega) (Own.rd_of encI_len o9) (by unfold maxLen; omega)).mono ?_
  rintro e w10 ⟨A10', c10', rfl, o10, b10⟩
  have ho10 := o10
  have B10 : Below w.heap.size w w10 := below_step B9 b10 (Nat.le_refl _)
  have S10 := b10.size
  replace o6 := Own.below o6 b10
  replace o7 := Own.below o7 b10
  replace o8 := Own.below o8 b10
  replace o9 := Own.below o9 b10
  go_wp2_with fail
  refine (eqIntS_same _ _ _ _ _ _ (by omega) (Own.rd_of encI_len o10) (Own.rd_of encI_len o6)).mono ?_
  rintro e w11 ⟨rfl, b11⟩
  have B11 : Below w.heap.size w w11 := below_step B10 b11 (Nat.le_refl _)
  have S11 := b11.size
  replace o6 := Own.below o6 b11
  replace o7 := Own.below o7 b11
  replace o8 := Own.below o8 b11
  replace o9 := Own.below o9 b11
  replace o10 := Own.below o10 b11
  go_wp2_with fail
  refine (Support.toS_any a0 A0 c0 _ nn0 (r0.later B11)).mono ?_
  rintro e w12 ⟨rfl, o12, b12⟩
  have ho12 := o12
  have B12 : Below w.heap.size w w12 := below_step B11 b12 (Nat.le_refl _)
  have S12 := b12.size
  replace o6 := Own.below o6 b12
  replace o7 := Own.below o7 b12
  replace o8 := Own.below o8 b12
  replace o9 := Own.below o9 b12
  replace o10 := Own.below o10 b12
  go_wp2_with fail
  refine (Support.eqS_same _ _ _ _ _ _ (by omega) (Own.rd_of Support.enc_len o7) (Own.rd_of Support.enc_len o12)).mono ?_
  rintro e w13 ⟨rfl, b13⟩
  have B13 : Below w.heap.size w w13 := below_step B12 b13 (Nat.le_refl _)
  have S13 := b13.size
  replace o6 := Own.below o6 b13
  replace o7 := Own.below o7 b13
  replace o8 := Own.below o8 b13
  replace o9 := Own.below o9 b13
  replace o10 := Own.below o10 b13
  replace o12 := Own.below o12 b13
  go_wp2_with fail
  refine (Crew.toS_any a1 A1 c1 _ nn1 (r1.later B13)).mono ?_
  rintro e w14 ⟨rfl, o14, b14⟩
  have ho14 := o14
  have B14 : Below w.heap.size w w14 := below_step B13 b14 (Nat.le_refl _)
  have S14 := b14.size
  replace o6 := Own.below o6 b14
  replace o7 := Own.below o7 b14
  replace o8 := Own.below o8 b14
  replace o9 := Own.below o9 b14
  replace o10 := Own.below o10 b14
  go_wp2_with fail
  refine (Crew.eqS_same _ _ _ _ _ _ (by omega) (Own.rd_of Crew.enc_len o8) (Own.rd_of Crew.enc_len o14)).mono ?_
  rintro e w15 ⟨rfl, b15⟩
  have B15 : Below w.heap.size w w15 := below_step B14 b15 (Nat.le_refl _)
  have S15 := b15.size
  replace o6 := Own.below o6 b15
  replace o7 := Own.below o7 b15
  replace o8 := Own.below o8 b15
  replace o9 := Own.below o9 b15
  replace o10 := Own.below o10 b15
  replace o14 := Own.below o14 b15
  go_wp2_with fail
  refine (toIntS_any a2 A2 c2 _ nn2 (r2.later B15)).mono ?_
  rintro e w16 ⟨rfl, o16, b16⟩
  have ho16 := o16
  have B16 : Below w.heap.size w w16 := below_step B15 b16 (Nat.le_refl _)
  have S16 := b16.size
  replace o6 := Own.below o6 b16
  replace o7 := Own.below o7 b16
  replace o8 := Own.below o8 b16
  replace o9 := Own.below o9 b16
  replace o10 := Own.below o10 b16
  go_wp2_with fail
  refine (eqIntS_same _ _ _ _ _ _ (by omega) (Own.rd_of encI_len o9) (Own.rd_of encI_len o16)).mono ?_
  rintro e w17 ⟨rfl, b17⟩
  have B17 : Below w.heap.size w w17 := below_step B16 b17 (Nat.le_refl _)
  have S17 := b17.size
  replace o6 := Own.below o6 b17
  replace o7 := Own.below o7 b17
  replace o8 := Own.below o8 b17
  replace o9 := Own.below o9 b17
  replace o10 := Own.below o10 b17
  replace o16 := Own.below o16 b17
  go_wp2_with fail
  refine (Support.markS_any _ _ _ _ _ _ _ (by omega) (by omega) o7).mono ?_
  rintro e w18 ⟨rfl, o7', g18⟩
  replace o6 : Own _ _ _ _ w18 _ _ := World.ownsRow.kept o6 g18 (own_apart ho6 ho7 (by omega)).1
  replace o8 : Own _ _ _ _ w18 _ _ := World.ownsRow.kept o8 g18 (own_apart ho7 ho8 (by omega)).2
  replace o9 : Own _ _ _ _ w18 _ _ := World.ownsRow.kept o9 g18 (own_apart ho7 ho9 (by omega)).2
  replace o10 : Own _ _ _ _ w18 _ _ := World.ownsRow.kept o10 g18 (own_apart ho7 ho10 (by omega)).2
  have S18 := g18.size
  have B18 : Below w.heap.size w w18 := B17.grown g18 (by omega) (fun k hk => by have hh := World.ownsRow.lt ho7 k hk; omega)
  replace o7 := o7'
  go_wp2_with fail
  refine (Crew.markS_any _ _ _ _ _ _ _ (by omega) (by omega) o8).mono ?_
  rintro e w19 ⟨rfl, o8', g19⟩
  replace o6 : Own _ _ _ _ w19 _ _ := World.ownsRow.kept o6 g19 (own_apart ho6 ho8 (by omega)).1
  replace o9 : Own _ _ _ _ w19 _ _ := World.ownsRow.kept o9 g19 (own_apart ho8 ho9 (by omega)).2
  replace o10 : Own _ _ _ _ w19 _ _ := World.ownsRow.kept o10 g19 (own_apart ho8 ho10 (by omega)).2
  have S19 := g19.size
  have B19 : Below w.heap.size w w19 := B18.grown g19 (by omega) (fun k hk => by have hh := World.ownsRow.lt ho8 k hk; omega)
  replace o8 := o8'
  go_wp2_with fail
  refine (markIntS_any _ _ _ _ _ _ _ (by omega) (by omega) o9).mono ?_
  rintro e w20 ⟨rfl, o9', g20⟩
  replace o6 : Own _ _ _ _ w20 _ _ := World.ownsRow.kept o6 g20 (own_apart ho6 ho9 (by omega)).1
  replace o10 : Own _ _ _ _ w20 _ _ := World.ownsRow.kept o10 g20 (own_apart ho9 ho10 (by omega)).2
  have S20 := g20.size
  have B20 : Below w.heap.size w w20 := B19.grown g20 (by omega) (fun k hk => by have hh := World.ownsRow.lt ho9 k hk; omega)
  replace o9 := o9'
  go_wp2_with fail
  refine (eqIntS_same _ _ _ _ _ _ (by omega) (Own.rd_of encI_len o10) (Own.rd_of encI_len o6)).mono ?_
  rintro e w21 ⟨rfl, b21⟩
  have B21 : Below w.heap.size w w21 := below_step B20 b21 (Nat.le_refl _)
  have S21 := b21.size
  replace o6 := Own.below o6 b21
  replace o10 := Own.below o10 b21
  go_wp2_with fail
  refine (markIntS_any _ _ _ _ _ _ _ (by omega) (by omega) o10).mono ?_
  rintro e w22 ⟨rfl, o10', g22⟩
  replace o6 : Own _ _ _ _ w22 _ _ := World.ownsRow.kept o6 g22 (own_apart ho6 ho10 (by omega)).1
  have S22 := g22.size
  have B22 : Below w.heap.size w w22 := B21.grown g22 (by omega) (fun k hk => by have hh := World.ownsRow.lt ho10 k hk; omega)
  replace o10 := o10'
  go_wp2_with fail
  refine (heldIntS_any _ _ _ _ _ (by omega) (by omega) (Own.rd_of encI_len o10)).mono ?_
  rintro e w23 ⟨rfl, rfl⟩
  go_wp2_with fail
  refine (Support.toS_any a0 A0 c0 _ nn0 (r0.later B22)).mono ?_
  rintro e w23 ⟨rfl, o23, b23⟩
  have ho23 := o23
  have B23 : Below w.heap.size w w23 := below_step B22 b23 (Nat.le_refl _)
  have S23 := b23.size
  replace o6 := Own.below o6 b23
  replace o10 := Own.below o10 b23
  go_wp2_with fail
  refine (Crew.toS_any a1 A1 c1 _ nn1 (r1.later B23)).mono ?_
  rintro e w24 ⟨rfl, o24, b24⟩
  have ho24 := o24
  have B24 : Below w.heap.size w w24 := below_step B23 b24 (Nat.le_refl _)
  have S24 := b24.size
  replace o6 := Own.below o6 b24
  replace o10 := Own.below o10 b24
  replace o23 := Own.below o23 b24
  go_wp2_with fail
  refine (toIntS_any a2 A2 c2 _ nn2 (r2.later B24)).mono ?_
  rintro e w25 ⟨rfl, o25, b25⟩
  have ho25 := o25
  have B25 : Below w.heap.size w w25 := below_step B24 b25 (Nat.le_refl _)
  have S25 := b25.size
  replace o6 := Own.below o6 b25
  replace o10 := Own.below o10 b25
  replace o23 := Own.below o23 b25
  replace o24 := Own.below o24 b25
  go_wp2_with fail
  refine (BestEvacuation_any _ _ _ _ _ _ _ _ _ _ (Own.rd_of Support.enc_len o23) (ok0) (by unfold maxLen; omega) (Own.rd_of Crew.enc_len o24) (by unfold maxLen; omega) (Own.rd_of encI_len o25) (by unfold maxLen; omega)).mono ?_
  rintro e w26 ⟨A26', c26', rfl, o26, b26⟩
  have ho26 := o26
  have B26 : Below w.heap.size w w26 := below_step B25 b26 (Nat.le_refl _)
  have S26 := b26.size
  replace o6 := Own.below o6 b26
  replace o10 := Own.below o10 b26
  replace o23 := Own.below o23 b26
  replace o24 := Own.below o24 b26
  replace o25 := Own.below o25 b26
  go_wp2_with fail
  refine (eqIntS_same _ _ _ _ _ _ (by omega) (Own.rd_of encI_len o26) (Own.rd_of encI_len o6)).mono ?_
  rintro e w27 ⟨rfl, b27⟩
  have B27 : Below w.heap.size w w27 := below_step B26 b27 (Nat.le_refl _)
  have S27 := b27.size
  replace o6 := Own.below o6 b27
  replace o10 := Own.below o10 b27
  replace o26 := Own.below o26 b27
  go_wp2_with fail
  refine (heldIntS_any _ _ _ _ _ (by omega) (by omega) (Own.rd_of encI_len o10)).mono ?_
  rintro e w28 ⟨rfl, rfl⟩
  go_wp2_with fail
  go_ret
  exact ⟨rfl, B27⟩
open Go.ChangeShapes Go.WideShapes Go.ChangeAt Go.RowKit
open Go.ChangeMaps (open_string shut_string)
set_option maxRecDepth 100000 in
theorem lifted (os : Os) (started : os.Started) (H : Type) (enc : TypeId × Value → H) :
    ReturnsInHanded {} Try.checked os 13 .any (Rows.fnExactBestEvacuationSpec.pre6 enc Try.prog Try.f13 Rows.fnExactBestEvacuationRow.domain false) (Rows.fnExactBestEvacuationSpec.post enc Try.prog Try.f13 false true false false) := by
  refine returnsInHanded_of_change (C := Try.checked) own started (by kernel_rfl) Try.func13
    (ChangeSpec.witness6 (enc := enc) (C := Try.checked) false ⟨#[], #[.slice none 0 0, .slice none 0 0, .slice none 0 0], []⟩ 8 (by kernel_rfl) (by kernel_rfl) (by kernel_rfl) (by kernel_rfl)) ?_
  intro W base args ds gs before hval0 hW hcnd _
  have hval : ∀ (j : Nat) t v, Try.f13.params[j]? = some t → args[j]? = some v → Value.okWide Try.prog W .any base t v := hval0
  have hW' := hW
  obtain ⟨p, q, hA0, hV, rfl, hfz, hnd⟩ := hW
  have hA : DataW.TrodAll enc Try.prog W 0 (fun _ => true) true Try.f13.params.toList args.toList ds p := hA0
  rw [Try.params13] at hA hval
  obtain ⟨v0, vs0, d0, ds0, p0, q0, hargs, rfl, rfl, h0, e0⟩ := trodAll_cons hA
  obtain ⟨v1, vs1, d1, ds1, p1, q1, rfl, rfl, rfl, h1, e1⟩ := trodAll_cons e0
  obtain ⟨v2, vs2, d2, ds2, p2, q2, rfl, rfl, rfl, h2, e2⟩ := trodAll_cons e1
  obtain ⟨rfl, rfl, rfl⟩ := trodAll_nil e2
  obtain rfl : args = #[v0, v1, v2] := by cases args; simp_all
  obtain ⟨rfl, rfl⟩ := trodVars_none hV
  have k0 := h0
  have lt0 : ∀ x ∈ p0, x.block < W.heap.size := by obtain ⟨m, hm⟩ := k0; exact DataW.trod_lt m _ _ _ hm
  obtain ⟨A0, len0, c0, rfl⟩ := okWide_slice Try.underlying42 (hval 0 42 v0 rfl rfl)
  obtain ⟨fu0, hf0⟩ := h0
  obtain ⟨L0, rfl, r0, g0, l0⟩ := open_list (encα := Support.enc) (m := 3) (Good := fun c => c.Ok ∧ c.Fits) Try.underlying42 (by kernel_rfl) (by decide) Support.enc_len Support.el hf0
  have k1 := h1
  have lt1 : ∀ x ∈ p1, x.block < W.heap.size := by obtain ⟨m, hm⟩ := k1; exact DataW.trod_lt m _ _ _ hm
  obtain ⟨A1, len1, c1, rfl⟩ := okWide_slice Try.underlying49 (hval 1 49 v1 rfl rfl)
  obtain ⟨fu1, hf1⟩ := h1
  obtain ⟨L1, rfl, r1, g1, l1⟩ := open_list (encα := Crew.enc) (m := 3) (Good := fun c => c.Ok ∧ c.Fits) Try.underlying49 (by kernel_rfl) (by decide) Crew.enc_len Crew.el hf1
  have k2 := h2
  have lt2 : ∀ x ∈ p2, x.block < W.heap.size := by obtain ⟨m, hm⟩ := k2; exact DataW.trod_lt m _ _ _ hm
  obtain ⟨A2, len2, c2, rfl⟩ := okWide_slice Try.underlying26 (hval 2 26 v2 rfl rfl)
  obtain ⟨fu2, hf2⟩ := h2
  obtain ⟨L2, rfl, r2, g2, l2⟩ := open_list (encα := encI) (m := 1) (Good := fun c => (Lit.int .i64 c).wf = true) Try.underlying26 (by kernel_rfl) (by decide) encI_len elI hf2
  clear hA0 hval0
  refine (walk L0 A0 c0 L1 A1 c1 L2 A2 c2 W r0 (fun c hc => (g0 c hc).1) (fun c hc => (g0 c hc).2) l0 r1 (fun c hc => (g1 c hc).1) (fun c hc => (g1 c hc).2) l1 r2 g2 l2).mono fun e W' ⟨he, bel⟩ => ?_
  subst he
  exact ⟨_, rfl, _, _, _, [], _, [], hW', trodAll_mk1 (shut_bool Try.underlying4 _), (trodAll_cons_mk (Below.trod laidOut (by kernel_rfl) (of_decide_eq_true (by kernel_rfl)) k0 bel lt0) (trodAll_cons_mk (Below.trod laidOut (by kernel_rfl) (of_decide_eq_true (by kernel_rfl)) k1 bel lt1) (trodAll_cons_mk (Below.trod laidOut (by kernel_rfl) (of_decide_eq_true (by kernel_rfl)) k2 bel lt2) trodAll_mk0))), rfl, bel.frame _, fun h => by cases h⟩
theorem over : Rows.fnExactBestEvacuationRow.holds Try.pinned (OpenSpec.ofChange Rows.fnExactBestEvacuationSpec) :=
  OpenClaim.holds_of_wide 13 Try.f13 rfl rfl rfl rfl rfl rfl rfl ⟨rfl, rfl, rfl, rfl, rfl⟩ rfl rfl rfl rfl rfl (by kernel_rfl) Try.func13 (by kernel_rfl)
    (of_decide_eq_true (by kernel_rfl)) (by unfold Func.isWrapper; first | (rw [if_pos (by decide +kernel)]; kernel_rfl) | (rw [if_neg (by decide +kernel)]; exact ⟨rfl, rfl⟩))
    (fun os started H enc _ => lifted os started H enc)
theorem proved : Rows.FnExactBestEvacuationSaid := over
#print axioms proved
end Go.Proofs.Ytgfamaopplgfgaa.lawExactBestEvacuation
