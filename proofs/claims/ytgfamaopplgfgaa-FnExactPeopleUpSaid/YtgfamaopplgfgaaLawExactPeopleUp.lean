/- The law FnExactPeopleUp: for every input its call returns true and changes nothing that was there. No condition. -/
import Derived.Test.YtgfamaopplgfgaaPeople
import Derived.Test.YtgfamaopplgfgaaToInt
import Derived.Test.YtgfamaopplgfgaaOpen
namespace Go.Proofs.Ytgfamaopplgfgaa.lawExactPeopleUp
open Go Go.RowKit
set_option linter.unusedVariables false
set_option maxRecDepth 100000 in
set_option maxHeartbeats 2000000 in
theorem walk (a0 : List Support) (A0 : Option Addr) (c0 : Nat) (a1 : List Int) (A1 : Option Addr) (c1 : Nat) (w : World) (r0 : Rd Support.enc 3 w.heap.size w A0 a0) (ok0 : ∀ c ∈ a0, c.Ok) (f0 : ∀ c ∈ a0, c.Fits) (l0 : a0.length ≤ maxLen) (r1 : Rd encI 1 w.heap.size w A1 a1) (f1 : ∀ n ∈ a1, (Lit.int .i64 n).wf = true) (l1 : a1.length ≤ maxLen) :
    Calls Try.prog 4 #[.slice A0 a0.length c0, .slice A1 a1.length c1] w fun e w' => e = .returned (.bool true) ∧ Below w.heap.size w w' := by
  unfold maxLen at l1
  by_cases z1 : (1048576 : Int) < (a1.length : Int)
  · go_enter Try.func4, Try.ntmps4
    go_wp2_with fail
    go_ret
    exact ⟨rfl, Below.refl _ _⟩
  by_cases z0 : Support.szS a0 (1048576) < 0
  · go_enter Try.func4, Try.ntmps4
    go_wp2_with fail
    refine (Support.szS_any a0 A0 c0 _ _ (l0) (by omega) (by omega)).mono ?_
    rintro e y1 ⟨rfl, x1⟩
    have X1 := x1
    go_wp2_with fail
    go_ret
    exact ⟨rfl, X1⟩
  obtain ⟨n0, m0⟩ := Support.szS_fit (L := a0) (left := 1048576) (by omega)
  have n1 : (a1.length : Int) ≤ 1048576 := by omega
  have nn0 : a0.length ≤ 1048576 := by omega
  have nn1 : a1.length ≤ 1048576 := by omega
  go_enter Try.func4, Try.ntmps4
  go_wp2_with fail
  refine (Support.szS_any a0 A0 c0 _ _ (l0) (by omega) (by omega)).mono ?_
  rintro e w1 ⟨rfl, b1⟩
  have B1 : Below w.heap.size w w1 := b1
  have S1 := B1.size
  go_wp2_with fail
  refine (Support.toS_any a0 A0 c0 _ nn0 (r0.later B1)).mono ?_
  rintro e w2 ⟨rfl, o2, b2⟩
  have ho2 := o2
  have B2 : Below w.heap.size w w2 := below_step B1 b2 (Nat.le_refl _)
  have S2 := b2.size
  go_wp2_with fail
  refine (toIntS_any a1 A1 c1 _ nn1 (r1.later B2)).mono ?_
  rintro e w3 ⟨rfl, o3, b3⟩
  have ho3 := o3
  have B3 : Below w.heap.size w w3 := below_step B2 b3 (Nat.le_refl _)
  have S3 := b3.size
  replace o2 := Own.below o2 b3
  go_wp2_with fail
  refine (PeopleUp_spec _ _ _ _ _ _ _ (Own.rd_of Support.enc_len o2) (ok0) (by unfold maxLen; omega) (Own.rd_of encI_len o3) (by unfold maxLen; omega)).mono ?_
  rintro e w4 ⟨rfl, b4⟩
  have B4 : Below w.heap.size w w4 := below_step B3 b4 (Nat.le_refl _)
  have S4 := b4.size
  replace o2 := Own.below o2 b4
  replace o3 := Own.below o3 b4
  go_wp2_with fail
  refine (Support.toS_any a0 A0 c0 _ nn0 (r0.later B4)).mono ?_
  rintro e w5 ⟨rfl, o5, b5⟩
  have ho5 := o5
  have B5 : Below w.heap.size w w5 := below_step B4 b5 (Nat.le_refl _)
  have S5 := b5.size
  go_wp2_with fail
  refine (toIntS_any a1 A1 c1 _ nn1 (r1.later B5)).mono ?_
  rintro e w6 ⟨rfl, o6, b6⟩
  have ho6 := o6
  have B6 : Below w.heap.size w w6 := below_step B5 b6 (Nat.le_refl _)
  have S6 := b6.size
  replace o5 := Own.below o5 b6
  go_wp2_with fail
  refine (PeopleUp_any _ _ _ _ _ _ _ (Own.rd_of Support.enc_len o5) (ok0) (by unfold maxLen; omega) (Own.rd_of encI_len o6) (by unfold maxLen; omega)).mono ?_
  rintro e w7 ⟨rfl, b7⟩
  have B7 : Below w.heap.size w w7 := below_step B6 b7 (Nat.le_refl _)
  have S7 := b7.size
  replace o5 := Own.below o5 b7
  replace o6 := Own.below o6 b7
  go_wp2_with fail
  refine (Support.toS_any a0 A0 c0 _ nn0 (r0.later B7)).mono ?_
  rintro e w8 ⟨rfl, o8, b8⟩
  have ho8 := o8
  have B8 : Below w.heap.size w w8 := below_step B7 b8 (Nat.le_refl _)
  have S8 := b8.size
  replace o5 := Own.below o5 b8
  replace o6 := Own.below o6 b8
  go_wp2_with fail
  refine (Support.eqS_same _ _ _ _ _ _ (by omega) (Own.rd_of Support.enc_len o5) (Own.rd_of Support.enc_len o8)).mono ?_
  rintro e w9 ⟨rfl, b9⟩
  have B9 : Below w.heap.size w w9 := below_step B8 b9 (Nat.le_refl _)
  have S9 := b9.size
  replace o5 := Own.below o5 b9
  replace o6 := Own.below o6 b9
  replace o8 := Own.below o8 b9
  go_wp2_with fail
  refine (toIntS_any a1 A1 c1 _ nn1 (r1.later B9)).mono ?_
  rintro e w10 ⟨rfl, o10, b10⟩
  have ho10 := o10
  have B10 : Below w.heap.size w w10 := below_step B9 b10 (Nat.le_refl _)
  have S10 := b10.size
  replace o5 := Own.below o5 b10
  replace o6 := Own.below o6 b10
  go_wp2_with fail
  refine (eqIntS_same _ _ _ _ _ _ (by omega) (Own.rd_of encI_len o6) (Own.rd_of encI_len o10)).mono ?_
  rintro e w11 ⟨rfl, b11⟩
  have B11 : Below w.heap.size w w11 := below_step B10 b11 (Nat.le_refl _)
  have S11 := b11.size
  replace o5 := Own.below o5 b11
  replace o6 := Own.below o6 b11
  replace o10 := Own.below o10 b11
  go_wp2_with fail
  go_ret
  exact ⟨rfl, B11⟩
open Go.ChangeShapes Go.WideShapes Go.ChangeAt Go.RowKit
open Go.ChangeMaps (open_string shut_string)
set_option maxRecDepth 100000 in
theorem lifted (os : Os) (started : os.Started) (H : Type) (enc : TypeId × Value → H) :
    ReturnsInHanded {} Try.checked os 4 .any (Rows.fnExactPeopleUpSpec.pre6 enc Try.prog Try.f4 Rows.fnExactPeopleUpRow.domain false) (Rows.fnExactPeopleUpSpec.post enc Try.prog Try.f4 false true false false) := by
  refine returnsInHanded_of_change (C := Try.checked) own started (by kernel_rfl) Try.func4
    (ChangeSpec.witness6 (enc := enc) (C := Try.checked) false ⟨#[], #[.slice none 0 0, .slice none 0 0], []⟩ 8 (by kernel_rfl) (by kernel_rfl) (by kernel_rfl) (by kernel_rfl)) ?_
  intro W base args ds gs before hval0 hW hcnd _
  have hval : ∀ (j : Nat) t v, Try.f4.params[j]? = some t → args[j]? = some v → Value.okWide Try.prog W .any base t v := hval0
  have hW' := hW
  obtain ⟨p, q, hA0, hV, rfl, hfz, hnd⟩ := hW
  have hA : DataW.TrodAll enc Try.prog W 0 (fun _ => true) true Try.f4.params.toList args.toList ds p := hA0
  rw [Try.params4] at hA hval
  obtain ⟨v0, vs0, d0, ds0, p0, q0, hargs, rfl, rfl, h0, e0⟩ := trodAll_cons hA
  obtain ⟨v1, vs1, d1, ds1, p1, q1, rfl, rfl, rfl, h1, e1⟩ := trodAll_cons e0
  obtain ⟨rfl, rfl, rfl⟩ := trodAll_nil e1
  obtain rfl : args = #[v0, v1] := by cases args; simp_all
  obtain ⟨rfl, rfl⟩ := trodVars_none hV
  have k0 := h0
  have lt0 : ∀ x ∈ p0, x.block < W.heap.size := by obtain ⟨m, hm⟩ := k0; exact DataW.trod_lt m _ _ _ hm
  obtain ⟨A0, len0, c0, rfl⟩ := okWide_slice Try.underlying42 (hval 0 42 v0 rfl rfl)
  obtain ⟨fu0, hf0⟩ := h0
  obtain ⟨L0, rfl, r0, g0, l0⟩ := open_list (encα := Support.enc) (m := 3) (Good := fun c => c.Ok ∧ c.Fits) Try.underlying42 (by kernel_rfl) (by decide) Support.enc_len Support.el hf0
  have k1 := h1
  have lt1 : ∀ x ∈ p1, x.block < W.heap.size := by obtain ⟨m, hm⟩ := k1; exact DataW.trod_lt m _ _ _ hm
  obtain ⟨A1, len1, c1, rfl⟩ := okWide_slice Try.underlying26 (hval 1 26 v1 rfl rfl)
  obtain ⟨fu1, hf1⟩ := h1
  obtain ⟨L1, rfl, r1, g1, l1⟩ := open_list (encα := encI) (m := 1) (Good := fun c => (Lit.int .i64 c).wf = true) Try.underlying26 (by kernel_rfl) (by decide) encI_len elI hf1
  clear hA0 hval0
  refine (walk L0 A0 c0 L1 A1 c1 W r0 (fun c hc => (g0 c hc).1) (fun c hc => (g0 c hc).2) l0 r1 g1 l1).mono fun e W' ⟨he, bel⟩ => ?_
  subst he
  exact ⟨_, rfl, _, _, _, [], _, [], hW', trodAll_mk1 (shut_bool Try.underlying4 _), (trodAll_cons_mk (Below.trod laidOut (by kernel_rfl) (of_decide_eq_true (by kernel_rfl)) k0 bel lt0) (trodAll_cons_mk (Below.trod laidOut (by kernel_rfl) (of_decide_eq_true (by kernel_rfl)) k1 bel lt1) trodAll_mk0)), rfl, bel.frame _, fun h => by cases h⟩
theorem over : Rows.fnExactPeopleUpRow.holds Try.pinned (OpenSpec.ofChange Rows.fnExactPeopleUpSpec) :=
  OpenClaim.holds_of_wide 4 Try.f4 rfl rfl rfl rfl rfl rfl rfl ⟨rfl, rfl, rfl, rfl, rfl⟩ rfl rfl rfl rfl rfl (by kernel_rfl) Try.func4 (by kernel_rfl)
    (of_decide_eq_true (by kernel_rfl)) (by unfold Func.isWrapper; first | (rw [if_pos (by decide +kernel)]; kernel_rfl) | (rw [if_neg (by decide +kernel)]; exact ⟨rfl, rfl⟩))
    (fun os started H enc _ => lifted os started H enc)
theorem proved : Rows.FnExactPeopleUpSaid := over
#print axioms proved
end Go.Proofs.Ytgfamaopplgfgaa.lawExactPeopleUp
