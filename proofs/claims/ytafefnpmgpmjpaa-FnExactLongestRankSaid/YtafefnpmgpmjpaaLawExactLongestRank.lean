/- The law FnExactLongestRank: for every input its call returns true and changes nothing that was there. No condition. -/
import Derived.Test.YtafefnpmgpmjpaaLongest
import Derived.Test.YtafefnpmgpmjpaaOpen
import Derived.Deep.RegionHeldLaw
namespace Go.Proofs.Ytafefnpmgpmjpaa.lawExactLongestRank
open Go Go.RowKit
set_option linter.unusedVariables false
set_option maxRecDepth 100000 in
set_option maxHeartbeats 2000000 in
theorem walk (a0 : List Consumer) (A0 : Option Addr) (c0 : Nat) (a1 : Battery) (a2 : Int) (w : World) (r0 : Rd Consumer.enc 3 w.heap.size w A0 a0) (ok0 : ∀ c ∈ a0, c.Ok) (f0 : ∀ c ∈ a0, c.Fits) (l0 : a0.length ≤ maxLen) (ok1 : a1.Ok) (f1 : a1.Fits) (i2 : (Lit.int .i64 a2).wf = true) :
    Calls Try.prog 3 #[.slice A0 a0.length c0, .agg #[.int .i64 a1.capacity, .int .i64 a1.charge, .int .i64 a1.most], .int .i64 a2] w fun e w' => e = .returned (.bool true) ∧ Below w.heap.size w w' := by
  have B0 : Below w.heap.size w (w.alloc (.cells #[.int .i64 a1.capacity, .int .i64 a1.charge, .int .i64 a1.most] 24)) := (Below.refl _ _).alloc (Nat.le_refl _) _
  have k1_0 : (w.alloc (.cells #[.int .i64 a1.capacity, .int .i64 a1.charge, .int .i64 a1.most] 24)).cell? ⟨w.heap.size, 0, none⟩ = some (.int .i64 a1.capacity) := by simp
  have k1_1 : (w.alloc (.cells #[.int .i64 a1.capacity, .int .i64 a1.charge, .int .i64 a1.most] 24)).cell? ⟨w.heap.size, 1, none⟩ = some (.int .i64 a1.charge) := by simp
  have k1_2 : (w.alloc (.cells #[.int .i64 a1.capacity, .int .i64 a1.charge, .int .i64 a1.most] 24)).cell? ⟨w.heap.size, 2, none⟩ = some (.int .i64 a1.most) := by simp
  by_cases z0 : Consumer.szS a0 (1048576) < 0
  · go_enter Try.func3, Try.ntmps3
    go_wp2_with fail
    refine (Consumer.szS_any a0 A0 c0 _ _ (r0.later B0) (ok0) (l0) (by omega) (by omega)).mono ?_
    rintro e y1 ⟨rfl, x1⟩
    have X1 := below_step B0 x1 (Nat.le_refl _)
    replace k1_0 := below_cell x1 k1_0
    replace k1_1 := below_cell x1 k1_1
    replace k1_2 := below_cell x1 k1_2
    go_wp2_with fail
    go_ret
    exact ⟨rfl, X1⟩
  obtain ⟨n0, m0, t0⟩ := Consumer.szS_fit (L := a0) (left := 1048576) (by omega)
  have nn0 : a0.length ≤ 1048576 := by omega
  go_enter Try.func3, Try.ntmps3
  go_wp2_with fail
  refine (Consumer.szS_any a0 A0 c0 _ _ (r0.later B0) (ok0) (l0) (by omega) (by omega)).mono ?_
  rintro e w1 ⟨rfl, b1⟩
  have B1 : Below w.heap.size w w1 := below_step B0 b1 (Nat.le_refl _)
  have S1 := B1.size
  replace k1_0 := below_cell b1 k1_0
  replace k1_1 := below_cell b1 k1_1
  replace k1_2 := below_cell b1 k1_2
  go_wp2_with fail
  go_region_held_law (fun w' => w'.cell? ⟨w.heap.size, 0, none⟩ = some (.int .i64 a1.capacity) ∧ w'.cell? ⟨w.heap.size, 1, none⟩ = some (.int .i64 a1.charge) ∧ w'.cell? ⟨w.heap.size, 2, none⟩ = some (.int .i64 a1.most)) (first | (refine ⟨?_, ?_, ?_⟩ <;> assumption) | go_keep) (first | (go_at_call 10; refine (Consumer.toS_any a0 A0 c0 _ nn0 (r0.later B1.drew)).mono ?_; rintro e w2 ⟨rfl, o2, b2⟩; have B2 : Below w.heap.size w w2 := below_step B1.drew b2 (Nat.le_refl _); have S2 := B2.size; have k1_0 := below_cell b2 k1_0; have k1_1 := below_cell b2 k1_1; have k1_2 := below_cell b2 k1_2) | (go_at_call 11; refine (Battery.to_any a1 _).mono ?_; rintro e w3 ⟨rfl, b3⟩; have B3 : Below w.heap.size w w3 := below_step B2 b3 (Nat.le_refl _); have S3 := B3.size; have k1_0 := below_cell b3 k1_0; have k1_1 := below_cell b3 k1_1; have k1_2 := below_cell b3 k1_2; have o2 := Own.below o2 b3) | (go_at_call 9; refine (LongestRank_spec _ _ _ _ _ _ (Own.rd_of Consumer.enc_len o2) (ok0) (by unfold maxLen; omega)).mono ?_; rintro e w4 ⟨rfl, b4⟩; have B4 : Below w.heap.size w w4 := below_step B3 b4 (Nat.le_refl _); have S4 := b4.size; have k1_0 := below_cell b4 k1_0; have k1_1 := below_cell b4 k1_1; have k1_2 := below_cell b4 k1_2))
  go_wp2_with fail
  refine (Consumer.toS_any a0 A0 c0 _ nn0 (r0.later B4)).mono ?_
  rintro e w5 ⟨rfl, o5, b5⟩
  have ho5 := o5
  have B5 : Below w.heap.size w w5 := below_step B4 b5 (Nat.le_refl _)
  have S5 := b5.size
  replace k1_0 := below_cell b5 k1_0
  replace k1_1 := below_cell b5 k1_1
  replace k1_2 := below_cell b5 k1_2
  go_wp2_with fail
  refine (Battery.to_any a1 _).mono ?_
  rintro e w6 ⟨rfl, b6⟩
  have B6 : Below w.heap.size w w6 := below_step B5 b6 (Nat.le_refl _)
  have S6 := b6.size
  replace k1_0 := below_cell b6 k1_0
  replace k1_1 := below_cell b6 k1_1
  replace k1_2 := below_cell b6 k1_2
  replace o5 := Own.below o5 b6
  go_wp2_with fail
  refine (LongestRank_any _ _ _ _ _ _ (Own.rd_of Consumer.enc_len o5) (ok0) (by unfold maxLen; omega) (own_cap o5)).mono ?_
  rintro e w7 ⟨rfl, b7⟩
  have B7 : Below w.heap.size w w7 := below_step B6 b7 (Nat.le_refl _)
  have S7 := b7.size
  replace k1_0 := below_cell b7 k1_0
  replace k1_1 := below_cell b7 k1_1
  replace k1_2 := below_cell b7 k1_2
  replace o5 := Own.below o5 b7
  go_wp2_with fail
  refine (Consumer.toS_any a0 A0 c0 _ nn0 (r0.later B7)).mono ?_
  rintro e w8 ⟨rfl, o8, b8⟩
  have ho8 := o8
  have B8 : Below w.heap.size w w8 := below_step B7 b8 (Nat.le_refl _)
  have S8 := b8.size
  replace k1_0 := below_cell b8 k1_0
  replace k1_1 := below_cell b8 k1_1
  replace k1_2 := below_cell b8 k1_2
  replace o5 := Own.below o5 b8
  go_wp2_with fail
  refine (Consumer.eqS_same _ _ _ _ _ _ (by omega) (Own.rd_of Consumer.enc_len o5) (Own.rd_of Consumer.enc_len o8)).mono ?_
  rintro e w9 ⟨rfl, b9⟩
  have B9 : Below w.heap.size w w9 := below_step B8 b9 (Nat.le_refl _)
  have S9 := b9.size
  replace k1_0 := below_cell b9 k1_0
  replace k1_1 := below_cell b9 k1_1
  replace k1_2 := below_cell b9 k1_2
  replace o5 := Own.below o5 b9
  replace o8 := Own.below o8 b9
  go_wp2_with fail
  go_ret
  exact ⟨rfl, B9⟩
open Go.ChangeShapes Go.WideShapes Go.ChangeAt Go.RowKit
open Go.ChangeMaps (open_string shut_string)
set_option maxRecDepth 100000 in
theorem lifted (os : Os) (started : os.Started) (H : Type) (enc : TypeId × Value → H) :
    ReturnsInHanded {} Try.checked os 3 .any (Rows.fnExactLongestRankSpec.pre6 enc Try.prog Try.f3 Rows.fnExactLongestRankRow.domain false) (Rows.fnExactLongestRankSpec.post enc Try.prog Try.f3 false true false false) := by
  refine returnsInHanded_of_change (C := Try.checked) own started (by kernel_rfl) Try.func3
    (ChangeSpec.witness6 (enc := enc) (C := Try.checked) false ⟨#[], #[.slice none 0 0, .agg #[.int .i64 0, .int .i64 0, .int .i64 0], .int .i64 0], []⟩ 8 (by kernel_rfl) (by kernel_rfl) (by kernel_rfl) (by kernel_rfl)) ?_
  intro W base args ds gs before hval0 hW hcnd _
  have hval : ∀ (j : Nat) t v, Try.f3.params[j]? = some t → args[j]? = some v → Value.okWide Try.prog W .any base t v := hval0
  have hW' := hW
  obtain ⟨p, q, hA0, hV, rfl, hfz, hnd⟩ := hW
  have hA : DataW.TrodAll enc Try.prog W 0 (fun _ => true) true Try.f3.params.toList args.toList ds p := hA0
  rw [Try.params3] at hA hval
  obtain ⟨v0, vs0, d0, ds0, p0, q0, hargs, rfl, rfl, h0, e0⟩ := trodAll_cons hA
  obtain ⟨v1, vs1, d1, ds1, p1, q1, rfl, rfl, rfl, h1, e1⟩ := trodAll_cons e0
  obtain ⟨v2, vs2, d2, ds2, p2, q2, rfl, rfl, rfl, h2, e2⟩ := trodAll_cons e1
  obtain ⟨rfl, rfl, rfl⟩ := trodAll_nil e2
  obtain rfl : args = #[v0, v1, v2] := by cases args; simp_all
  obtain ⟨rfl, rfl⟩ := trodVars_none hV
  have k0 := h0
  have lt0 : ∀ x ∈ p0, x.block < W.heap.size := by obtain ⟨m, hm⟩ := k0; exact DataW.trod_lt m _ _ _ hm
  obtain ⟨A0, len0, c0, rfl⟩ := okWide_slice Try.underlying22 (hval 0 22 v0 rfl rfl)
  obtain ⟨fu0, hf0⟩ := h0
  obtain ⟨L0, rfl, r0, g0, l0⟩ := open_list (encα := Consumer.enc) (m := 3) (Good := fun c => c.Ok ∧ c.Fits) Try.underlying22 (by kernel_rfl) (by decide) Consumer.enc_len Consumer.el hf0
  have k1 := h1
  have lt1 : ∀ x ∈ p1, x.block < W.heap.size := by obtain ⟨m, hm⟩ := k1; exact DataW.trod_lt m _ _ _ hm
  obtain ⟨a1, rfl, g1⟩ := open_struct (encα := Battery.enc) (Good := fun c => c.Ok ∧ c.Fits) Try.underlying24 Battery.el (hval 1 24 v1 rfl rfl) h1
  have k2 := h2
  have lt2 : ∀ x ∈ p2, x.block < W.heap.size := by obtain ⟨m, hm⟩ := k2; exact DataW.trod_lt m _ _ _ hm
  obtain ⟨a2, rfl, rfl, rfl, wf2⟩ := open_int Try.underlying3 (hval 2 3 v2 rfl rfl) h2
  clear hA0 hval0
  refine (walk L0 A0 c0 a1 a2 W r0 (fun c hc => (g0 c hc).1) (fun c hc => (g0 c hc).2) l0 g1.1 g1.2 wf2).mono fun e W' ⟨he, bel⟩ => ?_
  subst he
  exact ⟨_, rfl, _, _, _, [], _, [], hW', trodAll_mk1 (shut_bool Try.underlying4 _), (trodAll_cons_mk (Below.trod laidOut (by kernel_rfl) (of_decide_eq_true (by kernel_rfl)) k0 bel lt0) (trodAll_cons_mk (Below.trod laidOut (by kernel_rfl) (of_decide_eq_true (by kernel_rfl)) k1 bel lt1) (trodAll_cons_mk (Below.trod laidOut (by kernel_rfl) (of_decide_eq_true (by kernel_rfl)) k2 bel lt2) trodAll_mk0))), rfl, bel.frame _, fun h => by cases h⟩
theorem over : Rows.fnExactLongestRankRow.holds Try.pinned (OpenSpec.ofChange Rows.fnExactLongestRankSpec) :=
  OpenClaim.holds_of_wide 3 Try.f3 rfl rfl rfl rfl rfl rfl rfl ⟨rfl, rfl, rfl, rfl, rfl⟩ rfl rfl rfl rfl rfl (by kernel_rfl) Try.func3 (by kernel_rfl)
    (of_decide_eq_true (by kernel_rfl)) (by unfold Func.isWrapper; first | (rw [if_pos (by decide +kernel)]; kernel_rfl) | (rw [if_neg (by decide +kernel)]; exact ⟨rfl, rfl⟩))
    (fun os started H enc _ => lifted os started H enc)
theorem proved : Rows.FnExactLongestRankSaid := over
#print axioms proved
end Go.Proofs.Ytafefnpmgpmjpaa.lawExactLongestRank
