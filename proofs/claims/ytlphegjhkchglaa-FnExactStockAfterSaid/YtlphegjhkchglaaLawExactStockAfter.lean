/- The law FnExactStockAfter: for every input its call returns true and changes nothing that was there. No condition. -/
import Derived.Test.YtlphegjhkchglaaUseL
import Derived.Test.YtlphegjhkchglaaOpen
namespace Go.Proofs.Ytlphegjhkchglaa.lawExactStockAfter
open Go Go.RowKit
set_option linter.unusedVariables false
set_option maxRecDepth 100000 in
set_option maxHeartbeats 2000000 in
theorem walk (a0 : List Part) (A0 : Option Addr) (c0 : Nat) (a1 : List Use) (A1 : Option Addr) (c1 : Nat) (a2 : Int) (w : World) (r0 : Rd Part.enc 5 w.heap.size w A0 a0) (ok0 : ∀ c ∈ a0, c.Ok) (f0 : ∀ c ∈ a0, c.Fits) (l0 : a0.length ≤ maxLen) (r1 : Rd Use.enc 3 w.heap.size w A1 a1) (ok1 : ∀ c ∈ a1, c.Ok) (f1 : ∀ c ∈ a1, c.Fits) (l1 : a1.length ≤ maxLen) (i2 : (Lit.int .i64 a2).wf = true) :
    Calls Try.prog 11 #[.slice A0 a0.length c0, .slice A1 a1.length c1, .int .i64 a2] w fun e w' => e = .returned (.bool true) ∧ Below w.heap.size w w' := by
  by_cases z0 : Part.szS a0 (1048576) < 0
  · go_enter Try.func11, Try.ntmps11
    go_wp2_with fail
    refine (Part.szS_any a0 A0 c0 _ _ r0 (ok0) (l0) (by omega) (by omega)).mono ?_
    rintro e y1 ⟨rfl, x1⟩
    have X1 := x1
    go_wp2_with fail
    go_ret
    exact ⟨rfl, X1⟩
  obtain ⟨n0, m0, t0⟩ := Part.szS_fit (L := a0) (left := 1048576) (by omega)
  by_cases z1 : Use.szS a1 (Part.szS a0 (1048576)) < 0
  · go_enter Try.func11, Try.ntmps11
    go_wp2_with fail
    refine (Part.szS_any a0 A0 c0 _ _ r0 (ok0) (l0) (by omega) (by omega)).mono ?_
    rintro e y1 ⟨rfl, x1⟩
    have X1 := x1
    go_wp2_with fail
    refine (Use.szS_any a1 A1 c1 _ _ (r1.later X1) (ok1) (l1) (by omega) (by omega)).mono ?_
    rintro e y2 ⟨rfl, x2⟩
    have X2 := below_step X1 x2 (Nat.le_refl _)
    go_wp2_with fail
    go_ret
    exact ⟨rfl, X2⟩
  obtain ⟨n1, m1, t1⟩ := Use.szS_fit (L := a1) (left := Part.szS a0 (1048576)) (by omega)
  have nn0 : a0.length ≤ 1048576 := by omega
  have nn1 : a1.length ≤ 1048576 := by omega
  have hlen := stkV_len a0 a1 a2
  go_enter Try.func11, Try.ntmps11
  go_wp2_with fail
  refine (Part.szS_any a0 A0 c0 _ _ r0 (ok0) (l0) (by omega) (by omega)).mono ?_
  rintro e w1 ⟨rfl, b1⟩
  have B1 : Below w.heap.size w w1 := b1
  have S1 := B1.size
  go_wp2_with fail
  refine (Use.szS_any a1 A1 c1 _ _ (r1.later B1) (ok1) (l1) (by omega) (by omega)).mono ?_
  rintro e w2 ⟨rfl, b2⟩
  have B2 : Below w.heap.size w w2 := below_step B1 b2 (Nat.le_refl _)
  have S2 := b2.size
  go_wp2_with fail
  refine (Part.toS_any a0 A0 c0 _ nn0 (r0.later B2)).mono ?_
  rintro e w3 ⟨rfl, o3, b3⟩
  have ho3 := o3
  have B3 : Below w.heap.size w w3 := below_step B2 b3 (Nat.le_refl _)
  have S3 := b3.size
  go_wp2_with fail
  refine (Use.toS_any a1 A1 c1 _ nn1 (r1.later B3)).mono ?_
  rintro e w4 ⟨rfl, o4, b4⟩
  have ho4 := o4
  have B4 : Below w.heap.size w w4 := below_step B3 b4 (Nat.le_refl _)
  have S4 := b4.size
  replace o3 := Own.below o3 b4
  go_wp2_with fail
  refine (StockAfter_spec _ _ _ _ _ _ _ _ (Own.rd_of Part.enc_len o3) (Own.rd_of Use.enc_len o4) (ok0) (by unfold maxLen; omega) (by unfold maxLen; omega)).mono ?_
  rintro e w5 ⟨A5', c5', rfl, o5, b5⟩
  have ho5 := o5
  have B5 : Below w.heap.size w w5 := below_step B4 b5 (Nat.le_refl _)
  have S5 := b5.size
  replace o3 := Own.below o3 b5
  replace o4 := Own.below o4 b5
  go_wp2_with fail
  refine (Part.toS_any a0 A0 c0 _ nn0 (r0.later B5)).mono ?_
  rintro e w6 ⟨rfl, o6, b6⟩
  have ho6 := o6
  have B6 : Below w.heap.size w w6 := below_step B5 b6 (Nat.le_refl _)
  have S6 := b6.size
  replace o5 := Own.below o5 b6
  go_wp2_with fail
  refine (Use.toS_any a1 A1 c1 _ nn1 (r1.later B6)).mono ?_
  rintro e w7 ⟨rfl, o7, b7⟩
  have ho7 := o7
  have B7 : Below w.heap.size w w7 := below_step B6 b7 (Nat.le_refl _)
  have S7 := b7.size
  replace o5 := Own.below o5 b7
  replace o6 := Own.below o6 b7
  go_wp2_with fail
  refine (StockAfter_any _ _ _ _ _ _ _ _ (Own.rd_of Part.enc_len o6) (Own.rd_of Use.enc_len o7) (ok0) (by unfold maxLen; omega) (by unfold maxLen; omega)).mono ?_
  rintro e w8 ⟨A8', c8', rfl, o8, b8⟩
  have ho8 := o8
  have B8 : Below w.heap.size w w8 := below_step B7 b8 (Nat.le_refl _)
  have S8 := b8.size
  replace o5 := Own.below o5 b8
  replace o6 := Own.below o6 b8
  replace o7 := Own.below o7 b8
  go_wp2_with fail
  refine (eqIntS_same _ _ _ _ _ _ (by omega) (Own.rd_of encI_len o8) (Own.rd_of encI_len o5)).mono ?_
  rintro e w9 ⟨rfl, b9⟩
  have B9 : Below w.heap.size w w9 := below_step B8 b9 (Nat.le_refl _)
  have S9 := b9.size
  replace o5 := Own.below o5 b9
  replace o6 := Own.below o6 b9
  replace o7 := Own.below o7 b9
  replace o8 := Own.below o8 b9
  go_wp2_with fail
  refine (Part.toS_any a0 A0 c0 _ nn0 (r0.later B9)).mono ?_
  rintro e w10 ⟨rfl, o10, b10⟩
  have ho10 := o10
  have B10 : Below w.heap.size w w10 := below_step B9 b10 (Nat.le_refl _)
  have S10 := b10.size
  replace o5 := Own.below o5 b10
  replace o6 := Own.below o6 b10
  replace o7 := Own.below o7 b10
  replace o8 := Own.below o8 b10
  go_wp2_with fail
  refine (Part.eqS_same _ _ _ _ _ _ (by omega) (Own.rd_of Part.enc_len o6) (Own.rd_of Part.enc_len o10)).mono ?_
  rintro e w11 ⟨rfl, b11⟩
  have B11 : Below w.heap.size w w11 := below_step B10 b11 (Nat.le_refl _)
  have S11 := b11.size
  replace o5 := Own.below o5 b11
  replace o6 := Own.below o6 b11
  replace o7 := Own.below o7 b11
  replace o8 := Own.below o8 b11
  replace o10 := Own.below o10 b11
  go_wp2_with fail
  refine (Use.toS_any a1 A1 c1 _ nn1 (r1.later B11)).mono ?_
  rintro e w12 ⟨rfl, o12, b12⟩
  have ho12 := o12
  have B12 : Below w.heap.size w w12 := below_step B11 b12 (Nat.le_refl _)
  have S12 := b12.size
  replace o5 := Own.below o5 b12
  replace o6 := Own.below o6 b12
  replace o7 := Own.below o7 b12
  replace o8 := Own.below o8 b12
  go_wp2_with fail
  refine (Use.eqS_same _ _ _ _ _ _ (by omega) (Own.rd_of Use.enc_len o7) (Own.rd_of Use.enc_len o12)).mono ?_
  rintro e w13 ⟨rfl, b13⟩
  have B13 : Below w.heap.size w w13 := below_step B12 b13 (Nat.le_refl _)
  have S13 := b13.size
  replace o5 := Own.below o5 b13
  replace o6 := Own.below o6 b13
  replace o7 := Own.below o7 b13
  replace o8 := Own.below o8 b13
  replace o12 := Own.below o12 b13
  go_wp2_with fail
  refine (Part.markS_any _ _ _ _ _ _ _ (by omega) (by omega) o6).mono ?_
  rintro e w14 ⟨rfl, o6', g14⟩
  replace o5 : Own _ _ _ _ w14 _ _ := World.ownsRow.kept o5 g14 (own_apart ho5 ho6 (by omega)).1
  replace o7 : Own _ _ _ _ w14 _ _ := World.ownsRow.kept o7 g14 (own_apart ho6 ho7 (by omega)).2
  replace o8 : Own _ _ _ _ w14 _ _ := World.ownsRow.kept o8 g14 (own_apart ho6 ho8 (by omega)).2
  have S14 := g14.size
  have B14 : Below w.heap.size w w14 := B13.grown g14 (by omega) (fun k hk => by have hh := World.ownsRow.lt ho6 k hk; omega)
  replace o6 := o6'
  go_wp2_with fail
  refine (Use.markS_any _ _ _ _ _ _ _ (by omega) (by omega) o7).mono ?_
  rintro e w15 ⟨rfl, o7', g15⟩
  replace o5 : Own _ _ _ _ w15 _ _ := World.ownsRow.kept o5 g15 (own_apart ho5 ho7 (by omega)).1
  replace o8 : Own _ _ _ _ w15 _ _ := World.ownsRow.kept o8 g15 (own_apart ho7 ho8 (by omega)).2
  have S15 := g15.size
  have B15 : Below w.heap.size w w15 := B14.grown g15 (by omega) (fun k hk => by have hh := World.ownsRow.lt ho7 k hk; omega)
  replace o7 := o7'
  go_wp2_with fail
  refine (eqIntS_same _ _ _ _ _ _ (by omega) (Own.rd_of encI_len o8) (Own.rd_of encI_len o5)).mono ?_
  rintro e w16 ⟨rfl, b16⟩
  have B16 : Below w.heap.size w w16 := below_step B15 b16 (Nat.le_refl _)
  have S16 := b16.size
  replace o5 := Own.below o5 b16
  replace o8 := Own.below o8 b16
  go_wp2_with fail
  refine (markIntS_any _ _ _ _ _ _ _ (by omega) (by omega) o8).mono ?_
  rintro e w17 ⟨rfl, o8', g17⟩
  replace o5 : Own _ _ _ _ w17 _ _ := World.ownsRow.kept o5 g17 (own_apart ho5 ho8 (by omega)).1
  have S17 := g17.size
  have B17 : Below w.heap.size w w17 := B16.grown g17 (by omega) (fun k hk => by have hh := World.ownsRow.lt ho8 k hk; omega)
  replace o8 := o8'
  go_wp2_with fail
  refine (heldIntS_any _ _ _ _ _ (by omega) (by omega) (Own.rd_of encI_len o8)).mono ?_
  rintro e w18 ⟨rfl, rfl⟩
  go_wp2_with fail
  refine (Part.toS_any a0 A0 c0 _ nn0 (r0.later B17)).mono ?_
  rintro e w18 ⟨rfl, o18, b18⟩
  have ho18 := o18
  have B18 : Below w.heap.size w w18 := below_step B17 b18 (Nat.le_refl _)
  have S18 := b18.size
  replace o5 := Own.below o5 b18
  replace o8 := Own.below o8 b18
  go_wp2_with fail
  refine (Use.toS_any a1 A1 c1 _ nn1 (r1.later B18)).mono ?_
  rintro e w19 ⟨rfl, o19, b19⟩
  have ho19 := o19
  have B19 : Below w.heap.size w w19 := below_step B18 b19 (Nat.le_refl _)
  have S19 := b19.size
  replace o5 := Own.below o5 b19
  replace o8 := Own.below o8 b19
  replace o18 := Own.below o18 b19
  go_wp2_with fail
  refine (StockAfter_any _ _ _ _ _ _ _ _ (Own.rd_of Part.enc_len o18) (Own.rd_of Use.enc_len o19) (ok0) (by unfold maxLen; omega) (by unfold maxLen; omega)).mono ?_
  rintro e w20 ⟨A20', c20', rfl, o20, b20⟩
  have ho20 := o20
  have B20 : Below w.heap.size w w20 := below_step B19 b20 (Nat.le_refl _)
  have S20 := b20.size
  replace o5 := Own.below o5 b20
  replace o8 := Own.below o8 b20
  replace o18 := Own.below o18 b20
  replace o19 := Own.below o19 b20
  go_wp2_with fail
  refine (eqIntS_same _ _ _ _ _ _ (by omega) (Own.rd_of encI_len o20) (Own.rd_of encI_len o5)).mono ?_
  rintro e w21 ⟨rfl, b21⟩
  have B21 : Below w.heap.size w w21 := below_step B20 b21 (Nat.le_refl _)
  have S21 := b21.size
  replace o5 := Own.below o5 b21
  replace o8 := Own.below o8 b21
  replace o20 := Own.below o20 b21
  go_wp2_with fail
  refine (heldIntS_any _ _ _ _ _ (by omega) (by omega) (Own.rd_of encI_len o8)).mono ?_
  rintro e w22 ⟨rfl, rfl⟩
  go_wp2_with fail
  go_ret
  exact ⟨rfl, B21⟩
open Go.ChangeShapes Go.WideShapes Go.ChangeAt Go.RowKit
open Go.ChangeMaps (open_string shut_string)
set_option maxRecDepth 100000 in
theorem lifted (os : Os) (started : os.Started) (H : Type) (enc : TypeId × Value → H) :
    ReturnsInHanded {} Try.checked os 11 .any (Rows.fnExactStockAfterSpec.pre6 enc Try.prog Try.f11 Rows.fnExactStockAfterRow.domain false) (Rows.fnExactStockAfterSpec.post enc Try.prog Try.f11 false true false false) := by
  refine returnsInHanded_of_change (C := Try.checked) own started (by kernel_rfl) Try.func11
    (ChangeSpec.witness6 (enc := enc) (C := Try.checked) false ⟨#[], #[.slice none 0 0, .slice none 0 0, .int .i64 0], []⟩ 8 (by kernel_rfl) (by kernel_rfl) (by kernel_rfl) (by kernel_rfl)) ?_
  intro W base args ds gs before hval0 hW hcnd _
  have hval : ∀ (j : Nat) t v, Try.f11.params[j]? = some t → args[j]? = some v → Value.okWide Try.prog W .any base t v := hval0
  have hW' := hW
  obtain ⟨p, q, hA0, hV, rfl, hfz, hnd⟩ := hW
  have hA : DataW.TrodAll enc Try.prog W 0 (fun _ => true) true Try.f11.params.toList args.toList ds p := hA0
  rw [Try.params11] at hA hval
  obtain ⟨v0, vs0, d0, ds0, p0, q0, hargs, rfl, rfl, h0, e0⟩ := trodAll_cons hA
  obtain ⟨v1, vs1, d1, ds1, p1, q1, rfl, rfl, rfl, h1, e1⟩ := trodAll_cons e0
  obtain ⟨v2, vs2, d2, ds2, p2, q2, rfl, rfl, rfl, h2, e2⟩ := trodAll_cons e1
  obtain ⟨rfl, rfl, rfl⟩ := trodAll_nil e2
  obtain rfl : args = #[v0, v1, v2] := by cases args; simp_all
  obtain ⟨rfl, rfl⟩ := trodVars_none hV
  have k0 := h0
  have lt0 : ∀ x ∈ p0, x.block < W.heap.size := by obtain ⟨m, hm⟩ := k0; exact DataW.trod_lt m _ _ _ hm
  obtain ⟨A0, len0, c0, rfl⟩ := okWide_slice Try.underlying22 (hval 0 22 v0 rfl rfl)
  obtain ⟨fu0, hf0⟩ := h0
  obtain ⟨L0, rfl, r0, g0, l0⟩ := open_list (encα := Part.enc) (m := 5) (Good := fun c => c.Ok ∧ c.Fits) Try.underlying22 (by kernel_rfl) (by decide) Part.enc_len Part.el hf0
  have k1 := h1
  have lt1 : ∀ x ∈ p1, x.block < W.heap.size := by obtain ⟨m, hm⟩ := k1; exact DataW.trod_lt m _ _ _ hm
  obtain ⟨A1, len1, c1, rfl⟩ := okWide_slice Try.underlying39 (hval 1 39 v1 rfl rfl)
  obtain ⟨fu1, hf1⟩ := h1
  obtain ⟨L1, rfl, r1, g1, l1⟩ := open_list (encα := Use.enc) (m := 3) (Good := fun c => c.Ok ∧ c.Fits) Try.underlying39 (by kernel_rfl) (by decide) Use.enc_len Use.el hf1
  have k2 := h2
  have lt2 : ∀ x ∈ p2, x.block < W.heap.size := by obtain ⟨m, hm⟩ := k2; exact DataW.trod_lt m _ _ _ hm
  obtain ⟨a2, rfl, rfl, rfl, wf2⟩ := open_int Try.underlying3 (hval 2 3 v2 rfl rfl) h2
  clear hA0 hval0
  refine (walk L0 A0 c0 L1 A1 c1 a2 W r0 (fun c hc => (g0 c hc).1) (fun c hc => (g0 c hc).2) l0 r1 (fun c hc => (g1 c hc).1) (fun c hc => (g1 c hc).2) l1 wf2).mono fun e W' ⟨he, bel⟩ => ?_
  subst he
  exact ⟨_, rfl, _, _, _, [], _, [], hW', trodAll_mk1 (shut_bool Try.underlying4 _), (trodAll_cons_mk (Below.trod laidOut (by kernel_rfl) (of_decide_eq_true (by kernel_rfl)) k0 bel lt0) (trodAll_cons_mk (Below.trod laidOut (by kernel_rfl) (of_decide_eq_true (by kernel_rfl)) k1 bel lt1) (trodAll_cons_mk (Below.trod laidOut (by kernel_rfl) (of_decide_eq_true (by kernel_rfl)) k2 bel lt2) trodAll_mk0))), rfl, bel.frame _, fun h => by cases h⟩
theorem over : Rows.fnExactStockAfterRow.holds Try.pinned (OpenSpec.ofChange Rows.fnExactStockAfterSpec) :=
  OpenClaim.holds_of_wide 11 Try.f11 rfl rfl rfl rfl rfl rfl rfl ⟨rfl, rfl, rfl, rfl, rfl⟩ rfl rfl rfl rfl rfl (by kernel_rfl) Try.func11 (by kernel_rfl)
    (of_decide_eq_true (by kernel_rfl)) (by unfold Func.isWrapper; first | (rw [if_pos (by decide +kernel)]; kernel_rfl) | (rw [if_neg (by decide +kernel)]; exact ⟨rfl, rfl⟩))
    (fun os started H enc _ => lifted os started H enc)
theorem proved : Rows.FnExactStockAfterSaid := over
#print axioms proved
end Go.Proofs.Ytlphegjhkchglaa.lawExactStockAfter
