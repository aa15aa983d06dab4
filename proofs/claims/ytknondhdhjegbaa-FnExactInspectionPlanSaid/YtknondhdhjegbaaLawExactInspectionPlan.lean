/- The law FnExactInspectionPlan: for every input its call returns true and changes nothing that was there. No condition. -/
import Derived.Test.YtknondhdhjegbaaInspI
import Derived.Test.YtknondhdhjegbaaOpen
namespace Go.Proofs.Ytknondhdhjegbaa.lawExactInspectionPlan
open Go Go.RowKit
set_option linter.unusedVariables false
set_option maxRecDepth 100000 in
set_option maxHeartbeats 2000000 in
theorem walk (a0 : List Condition) (A0 : Option Addr) (c0 : Nat) (a1 : Int) (a2 : Int) (w : World) (r0 : Rd Condition.enc 5 w.heap.size w A0 a0) (ok0 : ∀ c ∈ a0, c.Ok) (f0 : ∀ c ∈ a0, c.Fits) (l0 : a0.length ≤ maxLen) (i1 : (Lit.int .i64 a1).wf = true) (i2 : (Lit.int .i64 a2).wf = true) :
    Calls Try.prog 11 #[.slice A0 a0.length c0, .int .i64 a1, .int .i64 a2] w fun e w' => e = .returned (.bool true) ∧ Below w.heap.size w w' := by
  by_cases z0 : Condition.szS a0 (1048576) < 0
  · go_enter Try.func11, Try.ntmps11
    go_wp2_with fail
    refine (Condition.szS_any a0 A0 c0 _ _ r0 (ok0) (l0) (by omega) (by omega)).mono ?_
    rintro e y1 ⟨rfl, x1⟩
    have X1 := x1
    go_wp2_with fail
    go_ret
    exact ⟨rfl, X1⟩
  obtain ⟨n0, m0, t0⟩ := Condition.szS_fit (L := a0) (left := 1048576) (by omega)
  have nn0 : a0.length ≤ 1048576 := by omega
  obtain ⟨hlen, htot, hrows⟩ := inspV_len a0 a1 a2
  go_enter Try.func11, Try.ntmps11
  go_wp2_with fail
  refine (Condition.szS_any a0 A0 c0 _ _ r0 (ok0) (l0) (by omega) (by omega)).mono ?_
  rintro e w1 ⟨rfl, b1⟩
  have B1 : Below w.heap.size w w1 := b1
  have S1 := B1.size
  go_wp2_with fail
  refine (Condition.toS_any a0 A0 c0 _ nn0 (r0.later B1)).mono ?_
  rintro e w2 ⟨rfl, o2, b2⟩
  have ho2 := o2
  have B2 : Below w.heap.size w w2 := below_step B1 b2 (Nat.le_refl _)
  have S2 := b2.size
  go_wp2_with fail
  refine (InspectionPlan_spec _ _ _ _ _ _ (Own.rd_of Condition.enc_len o2) (ok0) (by unfold maxLen; omega)).mono ?_
  rintro e w3 ⟨A3', c3', rfl, o3, b3⟩
  have ho3 := o3
  have B3 : Below w.heap.size w w3 := below_step B2 b3 (Nat.le_refl _)
  have S3 := b3.size
  replace o2 := Own.below o2 b3
  go_wp2_with fail
  refine (Condition.toS_any a0 A0 c0 _ nn0 (r0.later B3)).mono ?_
  rintro e w4 ⟨rfl, o4, b4⟩
  have ho4 := o4
  have B4 : Below w.heap.size w w4 := below_step B3 b4 (Nat.le_refl _)
  have S4 := b4.size
  replace o3 := Tab.below o3 b4
  go_wp2_with fail
  refine (InspectionPlan_any _ _ _ _ _ _ (Own.rd_of Condition.enc_len o4) (ok0) (by unfold maxLen; omega)).mono ?_
  rintro e w5 ⟨A5', c5', rfl, o5, b5⟩
  have ho5 := o5
  have B5 : Below w.heap.size w w5 := below_step B4 b5 (Nat.le_refl _)
  have S5 := b5.size
  replace o3 := Tab.below o3 b5
  replace o4 := Own.below o4 b5
  go_wp2_with fail
  refine (eqIntSS_same _ _ _ _ _ _ _ _ _ _ (by omega) hrows o5 o3).mono ?_
  rintro e w6 ⟨rfl, b6⟩
  have B6 : Below w.heap.size w w6 := below_step B5 b6 (Nat.le_refl _)
  have S6 := b6.size
  replace o3 := Tab.below o3 b6
  replace o4 := Own.below o4 b6
  replace o5 := Tab.below o5 b6
  go_wp2_with fail
  refine (Condition.toS_any a0 A0 c0 _ nn0 (r0.later B6)).mono ?_
  rintro e w7 ⟨rfl, o7, b7⟩
  have ho7 := o7
  have B7 : Below w.heap.size w w7 := below_step B6 b7 (Nat.le_refl _)
  have S7 := b7.size
  replace o3 := Tab.below o3 b7
  replace o4 := Own.below o4 b7
  replace o5 := Tab.below o5 b7
  go_wp2_with fail
  refine (Condition.eqS_same _ _ _ _ _ _ (by omega) (Own.rd_of Condition.enc_len o4) (Own.rd_of Condition.enc_len o7)).mono ?_
  rintro e w8 ⟨rfl, b8⟩
  have B8 : Below w.heap.size w w8 := below_step B7 b8 (Nat.le_refl _)
  have S8 := b8.size
  replace o3 := Tab.below o3 b8
  replace o4 := Own.below o4 b8
  replace o5 := Tab.below o5 b8
  replace o7 := Own.below o7 b8
  go_wp2_with fail
  refine (Condition.markS_any _ _ _ _ _ _ _ (by omega) (by omega) o4).mono ?_
  rintro e w9 ⟨rfl, o4', g9⟩
  replace o3 := Tab.grown o3 g9 (fun k hk => by have hh := World.ownsRow.lt ho4 k hk; omega)
  replace o5 := Tab.grown o5 g9 (fun k hk => by have hh := World.ownsRow.lt ho4 k hk; omega)
  have S9 := g9.size
  have B9 : Below w.heap.size w w9 := B8.grown g9 (by omega) (fun k hk => by have hh := World.ownsRow.lt ho4 k hk; omega)
  replace o4 := o4'
  go_wp2_with fail
  refine (eqIntSS_same _ _ _ _ _ _ _ _ _ _ (by omega) hrows o5 o3).mono ?_
  rintro e w10 ⟨rfl, b10⟩
  have B10 : Below w.heap.size w w10 := below_step B9 b10 (Nat.le_refl _)
  have S10 := b10.size
  replace o3 := Tab.below o3 b10
  replace o5 := Tab.below o5 b10
  go_wp2_with fail
  refine (markIntSS_any _ _ _ _ _ _ _ (by omega) (by omega) (by omega) (by omega) o5).mono ?_
  rintro e w11 ⟨rfl, o5', g11⟩
  replace o3 := Tab.low o3 g11 (by omega)
  have S11 := g11.size
  have B11 : Below w.heap.size w w11 := B10.trans (g11.mono (by omega))
  replace o5 := o5'
  go_wp2_with fail
  refine (heldIntSS_any _ _ _ _ _ _ _ _ rfl (by omega) (by omega) (by omega) o5).mono ?_
  rintro e w12 ⟨rfl, rfl⟩
  go_wp2_with fail
  refine (Condition.toS_any a0 A0 c0 _ nn0 (r0.later B11)).mono ?_
  rintro e w12 ⟨rfl, o12, b12⟩
  have ho12 := o12
  have B12 : Below w.heap.size w w12 := below_step B11 b12 (Nat.le_refl _)
  have S12 := b12.size
  replace o3 := Tab.below o3 b12
  replace o5 := Tab.below o5 b12
  go_wp2_with fail
  refine (InspectionPlan_any _ _ _ _ _ _ (Own.rd_of Condition.enc_len o12) (ok0) (by unfold maxLen; omega)).mono ?_
  rintro e w13 ⟨A13', c13', rfl, o13, b13⟩
  have ho13 := o13
  have B13 : Below w.heap.size w w13 := below_step B12 b13 (Nat.le_refl _)
  have S13 := b13.size
  replace o3 := Tab.below o3 b13
  replace o5 := Tab.below o5 b13
  replace o12 := Own.below o12 b13
  go_wp2_with fail
  refine (eqIntSS_same _ _ _ _ _ _ _ _ _ _ (by omega) hrows o13 o3).mono ?_
  rintro e w14 ⟨rfl, b14⟩
  have B14 : Below w.heap.size w w14 := below_step B13 b14 (Nat.le_refl _)
  have S14 := b14.size
  replace o3 := Tab.below o3 b14
  replace o5 := Tab.below o5 b14
  replace o13 := Tab.below o13 b14
  go_wp2_with fail
  refine (heldIntSS_any _ _ _ _ _ _ _ _ rfl (by omega) (by omega) (by omega) o5).mono ?_
  rintro e w15 ⟨rfl, rfl⟩
  go_wp2_with fail
  go_ret
  exact ⟨rfl, B14⟩
open Go.ChangeShapes Go.WideShapes Go.ChangeAt Go.RowKit
open Go.ChangeMaps (open_string shut_string)
set_option maxRecDepth 100000 in
theorem lifted (os : Os) (started : os.Started) (H : Type) (enc : TypeId × Value → H) :
    ReturnsInHanded {} Try.checked os 11 .any (Rows.fnExactInspectionPlanSpec.pre6 enc Try.prog Try.f11 Rows.fnExactInspectionPlanRow.domain false) (Rows.fnExactInspectionPlanSpec.post enc Try.prog Try.f11 false true false false) := by
  refine returnsInHanded_of_change (C := Try.checked) own started (by kernel_rfl) Try.func11
    (ChangeSpec.witness6 (enc := enc) (C := Try.checked) false ⟨#[], #[.slice none 0 0, .int .i64 0, .int .i64 0], []⟩ 8 (by kernel_rfl) (by kernel_rfl) (by kernel_rfl) (by kernel_rfl)) ?_
  intro W base args ds gs before hval0 hW hcnd _
  have hval : ∀ (j : Nat) t v, Try.f11.params[j]? = some t → args[j]? = some v → Value.okWide Try.prog W .any base t v := hval0
  have hW' := hW
  obtain ⟨p, q, hA0, hV, rfl, hfz, hnd⟩ := hW
  have hA : DataW.TrodAll enc Try.prog W 0 (fun _ => true) true Try.f11.params.toList args.toList ds p := hA0
  rw [Try.params11] at hA hval
  obtain ⟨v0, vs0, d0, ds0, p0, q0, hargs, rfl, rfl, h0, e0⟩ := trodAll_cons hA
  obtain ⟨v1, vs1, d1, ds1, p1, q1, rfl, rfl, rfl, h1, e1⟩ := trodAll_cons e0
  obtain ⟨v2, vs2, d2, ds2, p2, q2, rfl, rfl, rfl, h2, e2⟩ := trodAll_cons e1
  obtain ⟨rfl, rfl, rfl⟩ := trodAll_nil e2
  obtain rfl : args = #[v0, v1, v2] := by cases args; simp_all
  obtain ⟨rfl, rfl⟩ := trodVars_none hV
  have k0 := h0
  have lt0 : ∀ x ∈ p0, x.block < W.heap.size := by obtain ⟨m, hm⟩ := k0; exact DataW.trod_lt m _ _ _ hm
  obtain ⟨A0, len0, c0, rfl⟩ := okWide_slice Try.underlying29 (hval 0 29 v0 rfl rfl)
  obtain ⟨fu0, hf0⟩ := h0
  obtain ⟨L0, rfl, r0, g0, l0⟩ := open_list (encα := Condition.enc) (m := 5) (Good := fun c => c.Ok ∧ c.Fits) Try.underlying29 (by kernel_rfl) (by decide) Condition.enc_len Condition.el hf0
  have k1 := h1
  have lt1 : ∀ x ∈ p1, x.block < W.heap.size := by obtain ⟨m, hm⟩ := k1; exact DataW.trod_lt m _ _ _ hm
  obtain ⟨a1, rfl, rfl, rfl, wf1⟩ := open_int Try.underlying3 (hval 1 3 v1 rfl rfl) h1
  have k2 := h2
  have lt2 : ∀ x ∈ p2, x.block < W.heap.size := by obtain ⟨m, hm⟩ := k2; exact DataW.trod_lt m _ _ _ hm
  obtain ⟨a2, rfl, rfl, rfl, wf2⟩ := open_int Try.underlying3 (hval 2 3 v2 rfl rfl) h2
  clear hA0 hval0
  refine (walk L0 A0 c0 a1 a2 W r0 (fun c hc => (g0 c hc).1) (fun c hc => (g0 c hc).2) l0 wf1 wf2).mono fun e W' ⟨he, bel⟩ => ?_
  subst he
  exact ⟨_, rfl, _, _, _, [], _, [], hW', trodAll_mk1 (shut_bool Try.underlying4 _), (trodAll_cons_mk (Below.trod laidOut (by kernel_rfl) (of_decide_eq_true (by kernel_rfl)) k0 bel lt0) (trodAll_cons_mk (Below.trod laidOut (by kernel_rfl) (of_decide_eq_true (by kernel_rfl)) k1 bel lt1) (trodAll_cons_mk (Below.trod laidOut (by kernel_rfl) (of_decide_eq_true (by kernel_rfl)) k2 bel lt2) trodAll_mk0))), rfl, bel.frame _, fun h => by cases h⟩
theorem over : Rows.fnExactInspectionPlanRow.holds Try.pinned (OpenSpec.ofChange Rows.fnExactInspectionPlanSpec) :=
  OpenClaim.holds_of_wide 11 Try.f11 rfl rfl rfl rfl rfl rfl rfl ⟨rfl, rfl, rfl, rfl, rfl⟩ rfl rfl rfl rfl rfl (by kernel_rfl) Try.func11 (by kernel_rfl)
    (of_decide_eq_true (by kernel_rfl)) (by unfold Func.isWrapper; first | (rw [if_pos (by decide +kernel)]; kernel_rfl) | (rw [if_neg (by decide +kernel)]; exact ⟨rfl, rfl⟩))
    (fun os started H enc _ => lifted os started H enc)
theorem proved : Rows.FnExactInspectionPlanSaid := over
#print axioms proved
end Go.Proofs.Ytknondhdhjegbaa.lawExactInspectionPlan
