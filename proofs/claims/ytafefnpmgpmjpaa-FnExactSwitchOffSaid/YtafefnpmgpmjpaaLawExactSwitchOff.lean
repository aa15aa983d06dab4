/- The law FnExactSwitchOff: for every input its call returns true and changes nothing that was there. No condition. -/
import Derived.Test.YtafefnpmgpmjpaaServeF
import Derived.Test.YtafefnpmgpmjpaaOpen
namespace Go.Proofs.Ytafefnpmgpmjpaa.lawExactSwitchOff
open Go Go.RowKit
set_option linter.unusedVariables false
set_option maxRecDepth 100000 in
set_option maxHeartbeats 2000000 in
theorem walk (a0 : List Consumer) (A0 : Option Addr) (c0 : Nat) (a1 : Int) (w : World) (r0 : Rd Consumer.enc 3 w.heap.size w A0 a0) (ok0 : ∀ c ∈ a0, c.Ok) (f0 : ∀ c ∈ a0, c.Fits) (l0 : a0.length ≤ maxLen) (i1 : (Lit.int .i64 a1).wf = true) :
    Calls Try.prog 6 #[.slice A0 a0.length c0, .int .i64 a1] w fun e w' => e = .returned (.bool true) ∧ Below w.heap.size w w' := by
  by_cases z0 : Consumer.szS a0 (1048576) < 0
  · go_enter Try.func6, Try.ntmps6
    go_wp2_with fail
    refine (Consumer.szS_any a0 A0 c0 _ _ r0 (ok0) (l0) (by omega) (by omega)).mono ?_
    rintro e y1 ⟨rfl, x1⟩
    have X1 := x1
    go_wp2_with fail
    go_ret
    exact ⟨rfl, X1⟩
  obtain ⟨n0, m0, t0⟩ := Consumer.szS_fit (L := a0) (left := 1048576) (by omega)
  have nn0 : a0.length ≤ 1048576 := by omega
  have hlen := offV_len a0 a1
  go_enter Try.func6, Try.ntmps6
  go_wp2_with fail
  refine (Consumer.szS_any a0 A0 c0 _ _ r0 (ok0) (l0) (by omega) (by omega)).mono ?_
  rintro e w1 ⟨rfl, b1⟩
  have B1 : Below w.heap.size w w1 := b1
  have S1 := B1.size
  go_wp2_with fail
  refine (Consumer.toS_any a0 A0 c0 _ nn0 (r0.later B1)).mono ?_
  rintro e w2 ⟨rfl, o2, b2⟩
  have ho2 := o2
  have B2 : Below w.heap.size w w2 := below_step B1 b2 (Nat.le_refl _)
  have S2 := b2.size
  go_wp2_with fail
  refine (SwitchOff_spec _ _ _ _ _ (Own.rd_of Consumer.enc_len o2) (ok0) (by unfold maxLen; omega)).mono ?_
  rintro e w3 ⟨A3', c3', rfl, o3, b3⟩
  have ho3 := o3
  have B3 : Below w.heap.size w w3 := below_step B2 b3 (Nat.le_refl _)
  have S3 := b3.size
  replace o2 := Own.below o2 b3
  go_wp2_with fail
  refine (Consumer.toS_any a0 A0 c0 _ nn0 (r0.later B3)).mono ?_
  rintro e w4 ⟨rfl, o4, b4⟩
  have ho4 := o4
  have B4 : Below w.heap.size w w4 := below_step B3 b4 (Nat.le_refl _)
  have S4 := b4.size
  replace o3 := Own.below o3 b4
  go_wp2_with fail
  refine (SwitchOff_any _ _ _ _ _ (Own.rd_of Consumer.enc_len o4) (ok0) (by unfold maxLen; omega) (by first | exact Nat.le_refl _ | exact own_cap o4 | exact own_cap o4 rfl | exact own_cple o4 rfl)).mono ?_
  rintro e w5 ⟨A5', c5', rfl, o5, b5⟩
  have ho5 := o5
  have B5 : Below w.heap.size w w5 := below_step B4 b5 (Nat.le_refl _)
  have S5 := b5.size
  replace o3 := Own.below o3 b5
  replace o4 := Own.below o4 b5
  go_wp2_with fail
  refine (eqStringS_same _ _ _ _ _ _ (by omega) (Own.rd_of encS_len o5) (Own.rd_of encS_len o3)).mono ?_
  rintro e w6 ⟨rfl, b6⟩
  have B6 : Below w.heap.size w w6 := below_step B5 b6 (Nat.le_refl _)
  have S6 := b6.size
  replace o3 := Own.below o3 b6
  replace o4 := Own.below o4 b6
  replace o5 := Own.below o5 b6
  go_wp2_with fail
  refine (Consumer.toS_any a0 A0 c0 _ nn0 (r0.later B6)).mono ?_
  rintro e w7 ⟨rfl, o7, b7⟩
  have ho7 := o7
  have B7 : Below w.heap.size w w7 := below_step B6 b7 (Nat.le_refl _)
  have S7 := b7.size
  replace o3 := Own.below o3 b7
  replace o4 := Own.below o4 b7
  replace o5 := Own.below o5 b7
  go_wp2_with fail
  refine (Consumer.eqS_same _ _ _ _ _ _ (by omega) (Own.rd_of Consumer.enc_len o4) (Own.rd_of Consumer.enc_len o7)).mono ?_
  rintro e w8 ⟨rfl, b8⟩
  have B8 : Below w.heap.size w w8 := below_step B7 b8 (Nat.le_refl _)
  have S8 := b8.size
  replace o3 := Own.below o3 b8
  replace o4 := Own.below o4 b8
  replace o5 := Own.below o5 b8
  replace o7 := Own.below o7 b8
  go_wp2_with fail
  refine (Consumer.markS_any _ _ _ _ _ _ _ (by omega) (by omega) o4).mono ?_
  rintro e w9 ⟨rfl, o4', g9⟩
  replace o3 : Own _ _ _ _ w9 _ _ := World.ownsRow.kept o3 g9 (own_apart ho3 ho4 (by omega)).1
  replace o5 : Own _ _ _ _ w9 _ _ := World.ownsRow.kept o5 g9 (own_apart ho4 ho5 (by omega)).2
  have S9 := g9.size
  have B9 : Below w.heap.size w w9 := B8.grown g9 (by omega) (fun k hk => by have hh := World.ownsRow.lt ho4 k hk; omega)
  replace o4 := o4'
  go_wp2_with fail
  refine (eqStringS_same _ _ _ _ _ _ (by omega) (Own.rd_of encS_len o5) (Own.rd_of encS_len o3)).mono ?_
  rintro e w10 ⟨rfl, b10⟩
  have B10 : Below w.heap.size w w10 := below_step B9 b10 (Nat.le_refl _)
  have S10 := b10.size
  replace o3 := Own.below o3 b10
  replace o5 := Own.below o5 b10
  go_wp2_with fail
  refine (markStringS_any _ _ _ _ _ _ _ (by omega) (by omega) o5).mono ?_
  rintro e w11 ⟨rfl, o5', g11⟩
  replace o3 : Own _ _ _ _ w11 _ _ := World.ownsRow.kept o3 g11 (own_apart ho3 ho5 (by omega)).1
  have S11 := g11.size
  have B11 : Below w.heap.size w w11 := B10.grown g11 (by omega) (fun k hk => by have hh := World.ownsRow.lt ho5 k hk; omega)
  replace o5 := o5'
  go_wp2_with fail
  refine (heldStringS_any _ _ _ _ _ (by omega) (by omega) (Own.rd_of encS_len o5)).mono ?_
  rintro e w12 ⟨rfl, b12⟩
  have B12 : Below w.heap.size w w12 := below_step B11 b12 (Nat.le_refl _)
  have S12 := b12.size
  replace o3 := Own.below o3 b12
  replace o5 := Own.below o5 b12
  go_wp2_with fail
  refine (Consumer.toS_any a0 A0 c0 _ nn0 (r0.later B12)).mono ?_
  rintro e w13 ⟨rfl, o13, b13⟩
  have ho13 := o13
  have B13 : Below w.heap.size w w13 := below_step B12 b13 (Nat.le_refl _)
  have S13 := b13.size
  replace o3 := Own.below o3 b13
  replace o5 := Own.below o5 b13
  go_wp2_with fail
  refine (SwitchOff_any _ _ _ _ _ (Own.rd_of Consumer.enc_len o13) (ok0) (by unfold maxLen; omega) (by first | exact Nat.le_refl _ | exact own_cap o13 | exact own_cap o13 rfl | exact own_cple o13 rfl)).mono ?_
  rintro e w14 ⟨A14', c14', rfl, o14, b14⟩
  have ho14 := o14
  have B14 : Below w.heap.size w w14 := below_step B13 b14 (Nat.le_refl _)
  have S14 := b14.size
  replace o3 := Own.below o3 b14
  replace o5 := Own.below o5 b14
  replace o13 := Own.below o13 b14
  go_wp2_with fail
  refine (eqStringS_same _ _ _ _ _ _ (by omega) (Own.rd_of encS_len o14) (Own.rd_of encS_len o3)).mono ?_
  rintro e w15 ⟨rfl, b15⟩
  have B15 : Below w.heap.size w w15 := below_step B14 b15 (Nat.le_refl _)
  have S15 := b15.size
  replace o3 := Own.below o3 b15
  replace o5 := Own.below o5 b15
  replace o14 := Own.below o14 b15
  go_wp2_with fail
  refine (heldStringS_any _ _ _ _ _ (by omega) (by omega) (Own.rd_of encS_len o5)).mono ?_
  rintro e w16 ⟨rfl, b16⟩
  have B16 : Below w.heap.size w w16 := below_step B15 b16 (Nat.le_refl _)
  have S16 := b16.size
  replace o3 := Own.below o3 b16
  replace o5 := Own.below o5 b16
  replace o14 := Own.below o14 b16
  go_wp2_with fail
  go_ret
  exact ⟨rfl, B16⟩
open Go.ChangeShapes Go.WideShapes Go.ChangeAt Go.RowKit
open Go.ChangeMaps (open_string shut_string)
set_option maxRecDepth 100000 in
theorem lifted (os : Os) (started : os.Started) (H : Type) (enc : TypeId × Value → H) :
    ReturnsInHanded {} Try.checked os 6 .any (Rows.fnExactSwitchOffSpec.pre6 enc Try.prog Try.f6 Rows.fnExactSwitchOffRow.domain false) (Rows.fnExactSwitchOffSpec.post enc Try.prog Try.f6 false true false false) := by
  refine returnsInHanded_of_change (C := Try.checked) own started (by kernel_rfl) Try.func6
    (ChangeSpec.witness6 (enc := enc) (C := Try.checked) false ⟨#[], #[.slice none 0 0, .int .i64 0], []⟩ 8 (by kernel_rfl) (by kernel_rfl) (by kernel_rfl) (by kernel_rfl)) ?_
  intro W base args ds gs before hval0 hW hcnd _
  have hval : ∀ (j : Nat) t v, Try.f6.params[j]? = some t → args[j]? = some v → Value.okWide Try.prog W .any base t v := hval0
  have hW' := hW
  obtain ⟨p, q, hA0, hV, rfl, hfz, hnd⟩ := hW
  have hA : DataW.TrodAll enc Try.prog W 0 (fun _ => true) true Try.f6.params.toList args.toList ds p := hA0
  rw [Try.params6] at hA hval
  obtain ⟨v0, vs0, d0, ds0, p0, q0, hargs, rfl, rfl, h0, e0⟩ := trodAll_cons hA
  obtain ⟨v1, vs1, d1, ds1, p1, q1, rfl, rfl, rfl, h1, e1⟩ := trodAll_cons e0
  obtain ⟨rfl, rfl, rfl⟩ := trodAll_nil e1
  obtain rfl : args = #[v0, v1] := by cases args; simp_all
  obtain ⟨rfl, rfl⟩ := trodVars_none hV
  have k0 := h0
  have lt0 : ∀ x ∈ p0, x.block < W.heap.size := by obtain ⟨m, hm⟩ := k0; exact DataW.trod_lt m _ _ _ hm
  obtain ⟨A0, len0, c0, rfl⟩ := okWide_slice Try.underlying22 (hval 0 22 v0 rfl rfl)
  obtain ⟨fu0, hf0⟩ := h0
  obtain ⟨L0, rfl, r0, g0, l0⟩ := open_list (encα := Consumer.enc) (m := 3) (Good := fun c => c.Ok ∧ c.Fits) Try.underlying22 (by kernel_rfl) (by decide) Consumer.enc_len Consumer.el hf0
  have k1 := h1
  have lt1 : ∀ x ∈ p1, x.block < W.heap.size := by obtain ⟨m, hm⟩ := k1; exact DataW.trod_lt m _ _ _ hm
  obtain ⟨a1, rfl, rfl, rfl, wf1⟩ := open_int Try.underlying3 (hval 1 3 v1 rfl rfl) h1
  clear hA0 hval0
  refine (walk L0 A0 c0 a1 W r0 (fun c hc => (g0 c hc).1) (fun c hc => (g0 c hc).2) l0 wf1).mono fun e W' ⟨he, bel⟩ => ?_
  subst he
  exact ⟨_, rfl, _, _, _, [], _, [], hW', trodAll_mk1 (shut_bool Try.underlying4 _), (trodAll_cons_mk (Below.trod laidOut (by kernel_rfl) (of_decide_eq_true (by kernel_rfl)) k0 bel lt0) (trodAll_cons_mk (Below.trod laidOut (by kernel_rfl) (of_decide_eq_true (by kernel_rfl)) k1 bel lt1) trodAll_mk0)), rfl, bel.frame _, fun h => by cases h⟩
theorem over : Rows.fnExactSwitchOffRow.holds Try.pinned (OpenSpec.ofChange Rows.fnExactSwitchOffSpec) :=
  OpenClaim.holds_of_wide 6 Try.f6 rfl rfl rfl rfl rfl rfl rfl ⟨rfl, rfl, rfl, rfl, rfl⟩ rfl rfl rfl rfl rfl (by kernel_rfl) Try.func6 (by kernel_rfl)
    (of_decide_eq_true (by kernel_rfl)) (by unfold Func.isWrapper; first | (rw [if_pos (by decide +kernel)]; kernel_rfl) | (rw [if_neg (by decide +kernel)]; exact ⟨rfl, rfl⟩))
    (fun os started H enc _ => lifted os started H enc)
theorem proved : Rows.FnExactSwitchOffSaid := over
#print axioms proved
end Go.Proofs.Ytafefnpmgpmjpaa.lawExactSwitchOff
