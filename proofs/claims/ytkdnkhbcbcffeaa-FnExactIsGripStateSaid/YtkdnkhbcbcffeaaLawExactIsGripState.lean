/- The law FnExactIsGripState: for every input its call returns true and changes nothing that was there. No condition. -/
import Derived.Test.YtkdnkhbcbcffeaaGrip
import Derived.Test.YtkdnkhbcbcffeaaOpen
namespace Go.Proofs.Ytkdnkhbcbcffeaa.lawExactIsGripState
open Go Go.RowKit
set_option linter.unusedVariables false
set_option maxRecDepth 100000 in
set_option maxHeartbeats 2000000 in
theorem walk (a0 : GripState) (w : World) (ok0 : a0.Ok) (f0 : a0.Fits) :
    Calls Try.prog 3 #[.agg #[.int .i64 a0.state, .int .i64 a0.zone, .int .i64 a0.force, .int .i64 a0.fails]] w fun e w' => e = .returned (.bool true) ∧ Below w.heap.size w w' := by
  have B0 : Below w.heap.size w (w.alloc (.cells #[.int .i64 a0.state, .int .i64 a0.zone, .int .i64 a0.force, .int .i64 a0.fails] 23)) := (Below.refl _ _).alloc (Nat.le_refl _) _
  have k0_0 : (w.alloc (.cells #[.int .i64 a0.state, .int .i64 a0.zone, .int .i64 a0.force, .int .i64 a0.fails] 23)).cell? ⟨w.heap.size, 0, none⟩ = some (.int .i64 a0.state) := by simp
  have k0_1 : (w.alloc (.cells #[.int .i64 a0.state, .int .i64 a0.zone, .int .i64 a0.force, .int .i64 a0.fails] 23)).cell? ⟨w.heap.size, 1, none⟩ = some (.int .i64 a0.zone) := by simp
  have k0_2 : (w.alloc (.cells #[.int .i64 a0.state, .int .i64 a0.zone, .int .i64 a0.force, .int .i64 a0.fails] 23)).cell? ⟨w.heap.size, 2, none⟩ = some (.int .i64 a0.force) := by simp
  have k0_3 : (w.alloc (.cells #[.int .i64 a0.state, .int .i64 a0.zone, .int .i64 a0.force, .int .i64 a0.fails] 23)).cell? ⟨w.heap.size, 3, none⟩ = some (.int .i64 a0.fails) := by simp
  go_enter Try.func3, Try.ntmps3
  go_wp2_with fail
  refine (GripState.to_any a0 _).mono ?_
  rintro e w1 ⟨rfl, b1⟩
  have B1 : Below w.heap.size w w1 := below_step B0 b1 (Nat.le_refl _)
  have S1 := B1.size
  replace k0_0 := below_cell b1 k0_0
  replace k0_1 := below_cell b1 k0_1
  replace k0_2 := below_cell b1 k0_2
  replace k0_3 := below_cell b1 k0_3
  go_wp2_with fail
  refine (IsGripState_spec _ _).mono ?_
  rintro e w2 ⟨rfl, b2⟩
  have B2 : Below w.heap.size w w2 := below_step B1 b2 (Nat.le_refl _)
  have S2 := b2.size
  replace k0_0 := below_cell b2 k0_0
  replace k0_1 := below_cell b2 k0_1
  replace k0_2 := below_cell b2 k0_2
  replace k0_3 := below_cell b2 k0_3
  go_wp2_with fail
  refine (GripState.to_any a0 _).mono ?_
  rintro e w3 ⟨rfl, b3⟩
  have B3 : Below w.heap.size w w3 := below_step B2 b3 (Nat.le_refl _)
  have S3 := b3.size
  replace k0_0 := below_cell b3 k0_0
  replace k0_1 := below_cell b3 k0_1
  replace k0_2 := below_cell b3 k0_2
  replace k0_3 := below_cell b3 k0_3
  go_wp2_with fail
  refine (IsGripState_any _ _).mono ?_
  rintro e w4 ⟨rfl, b4⟩
  have B4 : Below w.heap.size w w4 := below_step B3 b4 (Nat.le_refl _)
  have S4 := b4.size
  replace k0_0 := below_cell b4 k0_0
  replace k0_1 := below_cell b4 k0_1
  replace k0_2 := below_cell b4 k0_2
  replace k0_3 := below_cell b4 k0_3
  go_wp2_with fail
  go_ret
  exact ⟨rfl, B4⟩
open Go.ChangeShapes Go.WideShapes Go.ChangeAt Go.RowKit
open Go.ChangeMaps (open_string shut_string)
set_option maxRecDepth 100000 in
theorem lifted (os : Os) (started : os.Started) (H : Type) (enc : TypeId × Value → H) :
    ReturnsInHanded {} Try.checked os 3 .any (Rows.fnExactIsGripStateSpec.pre6 enc Try.prog Try.f3 Rows.fnExactIsGripStateRow.domain false) (Rows.fnExactIsGripStateSpec.post enc Try.prog Try.f3 false true false false) := by
  refine returnsInHanded_of_change (C := Try.checked) own started (by kernel_rfl) Try.func3
    (ChangeSpec.witness6 (enc := enc) (C := Try.checked) false ⟨#[], #[.agg #[.int .i64 0, .int .i64 0, .int .i64 0, .int .i64 0]], []⟩ 8 (by kernel_rfl) (by kernel_rfl) (by kernel_rfl) (by kernel_rfl)) ?_
  intro W base args ds gs before hval0 hW hcnd _
  have hval : ∀ (j : Nat) t v, Try.f3.params[j]? = some t → args[j]? = some v → Value.okWide Try.prog W .any base t v := hval0
  have hW' := hW
  obtain ⟨p, q, hA0, hV, rfl, hfz, hnd⟩ := hW
  have hA : DataW.TrodAll enc Try.prog W 0 (fun _ => true) true Try.f3.params.toList args.toList ds p := hA0
  rw [Try.params3] at hA hval
  obtain ⟨v0, vs0, d0, ds0, p0, q0, hargs, rfl, rfl, h0, e0⟩ := trodAll_cons hA
  obtain ⟨rfl, rfl, rfl⟩ := trodAll_nil e0
  obtain rfl : args = #[v0] := by cases args; simp_all
  obtain ⟨rfl, rfl⟩ := trodVars_none hV
  have k0 := h0
  have lt0 : ∀ x ∈ p0, x.block < W.heap.size := by obtain ⟨m, hm⟩ := k0; exact DataW.trod_lt m _ _ _ hm
  obtain ⟨a0, rfl, g0⟩ := open_struct (encα := GripState.enc) (Good := fun c => c.Ok ∧ c.Fits) Try.underlying23 GripState.el (hval 0 23 v0 rfl rfl) h0
  clear hA0 hval0
  refine (walk a0 W g0.1 g0.2).mono fun e W' ⟨he, bel⟩ => ?_
  subst he
  exact ⟨_, rfl, _, _, _, [], _, [], hW', trodAll_mk1 (shut_bool Try.underlying4 _), (trodAll_cons_mk (Below.trod laidOut (by kernel_rfl) (of_decide_eq_true (by kernel_rfl)) k0 bel lt0) trodAll_mk0), rfl, bel.frame _, fun h => by cases h⟩
theorem over : Rows.fnExactIsGripStateRow.holds Try.pinned (OpenSpec.ofChange Rows.fnExactIsGripStateSpec) :=
  OpenClaim.holds_of_wide 3 Try.f3 rfl rfl rfl rfl rfl rfl rfl ⟨rfl, rfl, rfl, rfl, rfl⟩ rfl rfl rfl rfl rfl (by kernel_rfl) Try.func3 (by kernel_rfl)
    (of_decide_eq_true (by kernel_rfl)) (by unfold Func.isWrapper; first | (rw [if_pos (by decide +kernel)]; kernel_rfl) | (rw [if_neg (by decide +kernel)]; exact ⟨rfl, rfl⟩))
    (fun os started H enc _ => lifted os started H enc)
theorem proved : Rows.FnExactIsGripStateSaid := over
#print axioms proved
end Go.Proofs.Ytkdnkhbcbcffeaa.lawExactIsGripState
