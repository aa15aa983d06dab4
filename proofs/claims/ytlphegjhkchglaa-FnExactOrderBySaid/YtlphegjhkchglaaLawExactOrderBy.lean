/- The law FnExactOrderBy: for every input its call returns true and changes nothing that was there. No condition. -/
import Derived.Test.YtlphegjhkchglaaUseL
import Derived.Test.YtlphegjhkchglaaOpen
namespace Go.Proofs.Ytlphegjhkchglaa.lawExactOrderBy
open Go Go.RowKit
set_option linter.unusedVariables false
set_option maxRecDepth 100000 in
set_option maxHeartbeats 2000000 in
theorem walk (a0 : List Part) (A0 : Option Addr) (c0 : Nat) (a1 : List Use) (A1 : Option Addr) (c1 : Nat) (a2 : ByteArray) (w : World) (r0 : Rd Part.enc 5 w.heap.size w A0 a0) (ok0 : ∀ c ∈ a0, c.Ok) (f0 : ∀ c ∈ a0, c.Fits) (l0 : a0.length ≤ maxLen) (r1 : Rd Use.enc 3 w.heap.size w A1 a1) (ok1 : ∀ c ∈ a1, c.Ok) (f1 : ∀ c ∈ a1, c.Fits) (l1 : a1.length ≤ maxLen) (s2 : a2.size ≤ maxLen) :
    Calls Try.prog 9 #[.slice A0 a0.length c0, .slice A1 a1.length c1, .string a2] w fun e w' => e = .returned (.bool true) ∧ Below w.heap.size w w' := by
  unfold maxLen at s2
  by_cases z2 : (1048576 : Int) < (a2.size : Int)
  · go_enter Try.func9, Try.ntmps9
    go_wp2_with fail
    go_ret
    exact ⟨rfl, Below.refl _ _⟩
  by_cases z0 : Part.szS a0 (1048576) < 0
  · go_enter Try.func9, Try.ntmps9
    go_wp2_with fail
    refine (Part.szS_any a0 A0 c0 _ _ r0 (ok0) (l0) (by omega) (by omega)).mono ?_
    rintro e y1 ⟨rfl, x1⟩
    have X1 := x1
    go_wp2_with fail
    go_ret
    exact ⟨rfl, X1⟩
  obtain ⟨n0, m0, t0⟩ := Part.szS_fit (L := a0) (left := 1048576) (by omega)
  by_cases z1 : Use.szS a1 (Part.szS a0 (1048576)) < 0
  · go_enter Try.func9, Try.ntmps9
    go_wp2_with fail
    refine (Part.szS_any a0 A0 c0 _ _ r0 (ok0) (l0) (by omega) (by omega)).mono ?_
    rintro e y1 ⟨rfl, x1⟩
    have X1 := x1
    go_wp2_with fail
    refine (Use.szS_any a1 A1 c1 _ _ (r1.later X1) (ok1) (l1) (by omega) (by omega)).mono ?_
    rintro e y2 ⟨rfl, x2⟩
    have X2 := below_step X1 x2 (Nat.le_refl _)
    go_wp2_with fail
    go_ret
    exact ⟨rfl, X2⟩
  obtain ⟨n1, m1, t1⟩ := Use.szS_fit (L := a1) (left := Part.szS a0 (1048576)) (by omega)
  have nn0 : a0.length ≤ 1048576 := by omega
  have nn1 : a1.length ≤ 1048576 := by omega
  go_enter Try.func9, Try.ntmps9
  go_wp2_with fail
  refine (Part.szS_any a0 A0 c0 _ _ r0 (ok0) (l0) (by omega) (by omega)).mono ?_
  rintro e w1 ⟨rfl, b1⟩
  have B1 : Below w.heap.size w w1 := b1
  have S1 := B1.size
  go_wp2_with fail
  refine (Use.szS_any a1 A1 c1 _ _ (r1.later B1) (ok1) (l1) (by omega) (by omega)).mono ?_
  rintro e w2 ⟨rfl, b2⟩
  have B2 : Below w.heap.size w w2 := below_step B1 b2 (Nat.le_refl _)
  have S2 := b2.size
  go_wp2_with fail
  refine (Part.toS_any a0 A0 c0 _ nn0 (r0.later B2)).mono ?_
  rintro e w3 ⟨rfl, o3, b3⟩
  have ho3 := o3
  have B3 : Below w.heap.size w w3 := below_step B2 b3 (Nat.le_refl _)
  have S3 := b3.size
  go_wp2_with fail
  refine (Use.toS_any a1 A1 c1 _ nn1 (r1.later B3)).mono ?_
  rintro e w4 ⟨rfl, o4, b4⟩
  have ho4 := o4
  have B4 : Below w.heap.size w w4 := below_step B3 b4 (Nat.le_refl _)
  have S4 := b4.size
  replace o3 := Own.below o3 b4
  go_wp2_with fail
  refine (OrderBy_spec _ _ _ _ _ _ _ _ (Own.rd_of Part.enc_len o3) (Own.rd_of Use.enc_len o4) (ok0) (by unfold maxLen; omega) (by unfold maxLen; omega)).mono ?_
  rintro e w5 ⟨rfl, b5⟩
  have B5 : Below w.heap.size w w5 := below_step B4 b5 (Nat.le_refl _)
  have S5 := b5.size
  replace o3 := Own.below o3 b5
  replace o4 := Own.below o4 b5
  go_wp2_with fail
  refine (Part.toS_any a0 A0 c0 _ nn0 (r0.later B5)).mono ?_
  rintro e w6 ⟨rfl, o6, b6⟩
  have ho6 := o6
  have B6 : Below w.heap.size w w6 := below_step B5 b6 (Nat.le_refl _)
  have S6 := b6.size
  go_wp2_with fail
  refine (Use.toS_any a1 A1 c1 _ nn1 (r1.later B6)).mono ?_
  rintro e w7 ⟨rfl, o7, b7⟩
  have ho7 := o7
  have B7 : Below w.heap.size w w7 := below_step B6 b7 (Nat.le_refl _)
  have S7 := b7.size
  replace o6 := Own.below o6 b7
  go_wp2_with fail
  refine (OrderBy_any _ _ _ _ _ _ _ _ (Own.rd_of Part.enc_len o6) (Own.rd_of Use.enc_len o7) (ok0) (by unfold maxLen; omega) (by unfold maxLen; omega)).mono ?_
  rintro e w8 ⟨rfl, b8⟩
  have B8 : Below w.heap.size w w8 := below_step B7 b8 (Nat.le_refl _)
  have S8 := b8.size
  replace o6 := Own.below o6 b8
  replace o7 := Own.below o7 b8
  go_wp2_with fail
  refine (Part.toS_any a0 A0 c0 _ nn0 (r0.later B8)).mono ?_
  rintro e w9 ⟨rfl, o9, b9⟩
  have ho9 := o9
  have B9 : Below w.heap.size w w9 := below_step B8 b9 (Nat.le_refl _)
  have S9 := b9.size
  replace o6 := Own.below o6 b9
  replace o7 := Own.below o7 b9
  go_wp2_with fail
  refine (Part.eqS_same _ _ _ _ _ _ (by omega) (Own.rd_of Part.enc_len o6) (Own.rd_of Part.enc_len o9)).mono ?_
  rintro e w10 ⟨rfl, b10⟩
  have B10 : Below w.heap.size w w10 := below_step B9 b10 (Nat.le_refl _)
  have S10 := b10.size
  replace o6 := Own.below o6 b10
  replace o7 := Own.below o7 b10
  replace o9 := Own.below o9 b10
  go_wp2_with fail
  refine (Use.toS_any a1 A1 c1 _ nn1 (r1.later B10)).mono ?_
  rintro e w11 ⟨rfl, o11, b11⟩
  have ho11 := o11
  have B11 : Below w.heap.size w w11 := below_step B10 b11 (Nat.le_refl _)
  have S11 := b11.size
  replace o6 := Own.below o6 b11
  replace o7 := Own.below o7 b11
  go_wp2_with fail
  refine (Use.eqS_same _ _ _ _ _ _ (by omega) (Own.rd_of Use.enc_len o7) (Own.rd_of Use.enc_len o11)).mono ?_
  rintro e w12 ⟨rfl, b12⟩
  have B12 : Below w.heap.size w w12 := below_step B11 b12 (Nat.le_refl _)
  have S12 := b12.size
  replace o6 := Own.below o6 b12
  replace o7 := Own.below o7 b12
  replace o11 := Own.below o11 b12
  go_wp2_with fail
  go_ret
  exact ⟨rfl, B12⟩
open Go.ChangeShapes Go.WideShapes Go.ChangeAt Go.RowKit
open Go.ChangeMaps (open_string shut_string)
set_option maxRecDepth 100000 in
theorem lifted (os : Os) (started : os.Started) (H : Type) (enc : TypeId × Value → H) :
    ReturnsInHanded {} Try.checked os 9 .any (Rows.fnExactOrderBySpec.pre6 enc Try.prog Try.f9 Rows.fnExactOrderByRow.domain false) (Rows.fnExactOrderBySpec.post enc Try.prog Try.f9 false true false false) := by
  refine returnsInHanded_of_change (C := Try.checked) own started (by kernel_rfl) Try.func9
    (ChangeSpec.witness6 (enc := enc) (C := Try.checked) false ⟨#[], #[.slice none 0 0, .slice none 0 0, .string ⟨#[]⟩], []⟩ 8 (by kernel_rfl) (by kernel_rfl) (by kernel_rfl) (by kernel_rfl)) ?_
  intro W base args ds gs before hval0 hW hcnd _
  have hval : ∀ (j : Nat) t v, Try.f9.params[j]? = some t → args[j]? = some v → Value.okWide Try.prog W .any base t v := hval0
  have hW' := hW
  obtain ⟨p, q, hA0, hV, rfl, hfz, hnd⟩ := hW
  have hA : DataW.TrodAll enc Try.prog W 0 (fun _ => true) true Try.f9.params.toList args.toList ds p := hA0
  rw [Try.params9] at hA hval
  obtain ⟨v0, vs0, d0, ds0, p0, q0, hargs, rfl, rfl, h0, e0⟩ := trodAll_cons hA
  obtain ⟨v1, vs1, d1, ds1, p1, q1, rfl, rfl, rfl, h1, e1⟩ := trodAll_cons e0
  obtain ⟨v2, vs2, d2, ds2, p2, q2, rfl, rfl, rfl, h2, e2⟩ := trodAll_cons e1
  obtain ⟨rfl, rfl, rfl⟩ := trodAll_nil e2
  obtain rfl : args = #[v0, v1, v2] := by cases args; simp_all
  obtain ⟨rfl, rfl⟩ := trodVars_none hV
  have k0 := h0
  have lt0 : ∀ x ∈ p0, x.block < W.heap.size := by obtain ⟨m, hm⟩ := k0; exact DataW.trod_lt m _ _ _ hm
  obtain ⟨A0, len0, c0, rfl⟩ := okWide_slice Try.underlying22 (hval 0 22 v0 rfl rfl)
  obtain ⟨fu0, hf0⟩ := h0
  obtain ⟨L0, rfl, r0, g0, l0⟩ := open_list (encα := Part.enc) (m := 5) (Good := fun c => c.Ok ∧ c.Fits) Try.underlying22 (by kernel_rfl) (by decide) Part.enc_len Part.el hf0
  have k1 := h1
  have lt1 : ∀ x ∈ p1, x.block < W.heap.size := by obtain ⟨m, hm⟩ := k1; exact DataW.trod_lt m _ _ _ hm
  obtain ⟨A1, len1, c1, rfl⟩ := okWide_slice Try.underlying39 (hval 1 39 v1 rfl rfl)
  obtain ⟨fu1, hf1⟩ := h1
  obtain ⟨L1, rfl, r1, g1, l1⟩ := open_list (encα := Use.enc) (m := 3) (Good := fun c => c.Ok ∧ c.Fits) Try.underlying39 (by kernel_rfl) (by decide) Use.enc_len Use.el hf1
  have k2 := h2
  have lt2 : ∀ x ∈ p2, x.block < W.heap.size := by obtain ⟨m, hm⟩ := k2; exact DataW.trod_lt m _ _ _ hm
  obtain ⟨a2, rfl, rfl, rfl, wf2⟩ := open_string Try.underlying9 (hval 2 9 v2 rfl rfl) h2
  clear hA0 hval0
  refine (walk L0 A0 c0 L1 A1 c1 a2 W r0 (fun c hc => (g0 c hc).1) (fun c hc => (g0 c hc).2) l0 r1 (fun c hc => (g1 c hc).1) (fun c hc => (g1 c hc).2) l1 wf2).mono fun e W' ⟨he, bel⟩ => ?_
  subst he
  exact ⟨_, rfl, _, _, _, [], _, [], hW', trodAll_mk1 (shut_bool Try.underlying4 _), (trodAll_cons_mk (Below.trod laidOut (by kernel_rfl) (of_decide_eq_true (by kernel_rfl)) k0 bel lt0) (trodAll_cons_mk (Below.trod laidOut (by kernel_rfl) (of_decide_eq_true (by kernel_rfl)) k1 bel lt1) (trodAll_cons_mk (Below.trod laidOut (by kernel_rfl) (of_decide_eq_true (by kernel_rfl)) k2 bel lt2) trodAll_mk0))), rfl, bel.frame _, fun h => by cases h⟩
theorem over : Rows.fnExactOrderByRow.holds Try.pinned (OpenSpec.ofChange Rows.fnExactOrderBySpec) :=
  OpenClaim.holds_of_wide 9 Try.f9 rfl rfl rfl rfl rfl rfl rfl ⟨rfl, rfl, rfl, rfl, rfl⟩ rfl rfl rfl rfl rfl (by kernel_rfl) Try.func9 (by kernel_rfl)
    (of_decide_eq_true (by kernel_rfl)) (by unfold Func.isWrapper; first | (rw [if_pos (by decide +kernel)]; kernel_rfl) | (rw [if_neg (by decide +kernel)]; exact ⟨rfl, rfl⟩))
    (fun os started H enc _ => lifted os started H enc)
theorem proved : Rows.FnExactOrderBySaid := over
#print axioms proved
end Go.Proofs.Ytlphegjhkchglaa.lawExactOrderBy
