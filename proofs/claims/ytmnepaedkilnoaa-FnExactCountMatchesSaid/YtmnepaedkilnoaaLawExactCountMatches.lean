/- The law FnExactCountMatches: for every input its call returns true and changes nothing that was there. No condition. -/
import Derived.Test.YtmnepaedkilnoaaWaysI
import Derived.Test.YtmnepaedkilnoaaWaysS
import Derived.Test.YtmnepaedkilnoaaStPattern2
import Derived.Test.YtmnepaedkilnoaaOpen
namespace Go.Proofs.Ytmnepaedkilnoaa.lawExactCountMatches
open Go Go.RowKit
set_option linter.unusedVariables false
set_option maxRecDepth 100000 in
set_option maxHeartbeats 2000000 in
theorem walk (a0 : List Event) (A0 : Option Addr) (c0 : Nat) (a1 : List Pattern) (A1 : Option Addr) (c1 : Nat) (a2 : Int) (w : World) (r0 : Rd Event.enc 2 w.heap.size w A0 a0) (ok0 : ∀ c ∈ a0, c.Ok) (f0 : ∀ c ∈ a0, c.Fits) (l0 : a0.length ≤ maxLen) (r1 : Rd Pattern.enc 3 w.heap.size w A1 a1) (ok1 : ∀ c ∈ a1, c.Ok) (f1 : ∀ c ∈ a1, c.Fits) (l1 : a1.length ≤ maxLen) (d1 : Pattern.DeepP w.heap.size w a1) (i2 : (Lit.int .i64 a2).wf = true) :
    Calls Try.prog 6 #[.slice A0 a0.length c0, .slice A1 a1.length c1, .int .i64 a2] w fun e w' => e = .returned (.bool true) ∧ Below w.heap.size w w' := by
  by_cases z0 : Event.szS a0 (1048576) < 0
  · go_enter Try.func6, Try.ntmps6
    go_wp2_with fail
    refine (Event.szS_any a0 A0 c0 _ _ (l0) (by omega) (by omega)).mono ?_
    rintro e y1 ⟨rfl, x1⟩
    have X1 := x1
    go_wp2_with fail
    go_ret
    exact ⟨rfl, X1⟩
  obtain ⟨n0, m0⟩ := Event.szS_fit (L := a0) (left := 1048576) (by omega)
  by_cases z1 : Pattern.szS a1 (Event.szS a0 (1048576)) < 0
  · go_enter Try.func6, Try.ntmps6
    go_wp2_with fail
    refine (Event.szS_any a0 A0 c0 _ _ (l0) (by omega) (by omega)).mono ?_
    rintro e y1 ⟨rfl, x1⟩
    have X1 := x1
    go_wp2_with fail
    refine (Pattern.szS_any a1 A1 c1 _ _ (r1.later X1) (ok1) (l1) (by omega) (by omega)).mono ?_
    rintro e y2 ⟨rfl, x2⟩
    have X2 := below_step X1 x2 (Nat.le_refl _)
    go_wp2_with fail
    go_ret
    exact ⟨rfl, X2⟩
  obtain ⟨n1, m1⟩ := Pattern.szS_fit (L := a1) (left := Event.szS a0 (1048576)) (by omega)
  have nn0 : a0.length ≤ 1048576 := by omega
  have nn1 : a1.length ≤ 1048576 := by omega
  have ns1 : Pattern.sumC a1 ≤ 1048576 := by omega
  go_enter Try.func6, Try.ntmps6
  go_wp2_with fail
  refine (Event.szS_any a0 A0 c0 _ _ (l0) (by omega) (by omega)).mono ?_
  rintro e w1 ⟨rfl, b1⟩
  have B1 : Below w.heap.size w w1 := b1
  have S1 := B1.size
  go_wp2_with fail
  refine (Pattern.szS_any a1 A1 c1 _ _ (r1.later B1) (ok1) (l1) (by omega) (by omega)).mono ?_
  rintro e w2 ⟨rfl, b2⟩
  have B2 : Below w.heap.size w w2 := below_step B1 b2 (Nat.le_refl _)
  have S2 := b2.size
  go_wp2_with fail
  refine (Event.toS_any a0 A0 c0 _ nn0 (r0.later B2)).mono ?_
  rintro e w3 ⟨rfl, o3, b3⟩
  have ho3 := o3
  have B3 : Below w.heap.size w w3 := below_step B2 b3 (Nat.le_refl _)
  have S3 := b3.size
  go_wp2_with fail
  refine (Pattern.toS_any a1 A1 c1 _ nn1 ns1 (r1.later B3) (d1.later B3)).mono ?_
  rintro e w4 ⟨M4, rfl, hp4, o4, rr4, b4⟩
  have ho4 := o4
  have hrr4 := rr4
  have ln4 := Pattern.len_pats hp4
  have sm4 := Pattern.sumC_pats hp4
  have LN4 : M4.length ≤ 1048576 := by omega
  have SM4 : Pattern.sumC M4 ≤ 1048576 := by omega
  clear ln4 sm4
  have B4 : Below w.heap.size w w4 := below_step B3 b4 (Nat.le_refl _)
  have S4 := b4.size
  replace o3 := Own.below o3 b4
  go_wp2_with fail
  refine (CountMatches_spec hp4 _ _ _ _ _ _ _ (Own.rd_of Event.enc_len o3) (ok0) (by unfold maxLen; omega) (Own.rd_of Pattern.enc_len o4) (Pattern.ok_pats hp4 ok1) (by unfold maxLen; omega) (Pattern.row_deep rr4)).mono ?_
  rintro e w5 ⟨rfl, b5⟩
  have B5 : Below w.heap.size w w5 := below_step B4 b5 (Nat.le_refl _)
  have S5 := b5.size
  replace o3 := Own.below o3 b5
  replace o4 := Own.below o4 b5
  replace rr4 := OwnRows.below rr4 b5
  go_wp2_with fail
  refine (Event.toS_any a0 A0 c0 _ nn0 (r0.later B5)).mono ?_
  rintro e w6 ⟨rfl, o6, b6⟩
  have ho6 := o6
  have B6 : Below w.heap.size w w6 := below_step B5 b6 (Nat.le_refl _)
  have S6 := b6.size
  go_wp2_with fail
  refine (Pattern.toS_any a1 A1 c1 _ nn1 ns1 (r1.later B6) (d1.later B6)).mono ?_
  rintro e w7 ⟨M7, rfl, hp7, o7, rr7, b7⟩
  have ho7 := o7
  have hrr7 := rr7
  have ln7 := Pattern.len_pats hp7
  have sm7 := Pattern.sumC_pats hp7
  have LN7 : M7.length ≤ 1048576 := by omega
  have SM7 : Pattern.sumC M7 ≤ 1048576 := by omega
  clear ln7 sm7
  have B7 : Below w.heap.size w w7 := below_step B6 b7 (Nat.le_refl _)
  have S7 := b7.size
  replace o6 := Own.below o6 b7
  go_wp2_with fail
  refine (CountMatches_any hp7 _ _ _ _ _ _ _ (Own.rd_of Event.enc_len o6) (ok0) (by unfold maxLen; omega) (Own.rd_of Pattern.enc_len o7) (Pattern.ok_pats hp7 ok1) (by unfold maxLen; omega) (Pattern.row_deep rr7) (Nat.le_refl _)).mono ?_
  rintro e w8 ⟨rfl, b8⟩
  have B8 : Below w.heap.size w w8 := below_step B7 b8 (Nat.le_refl _)
  have S8 := b8.size
  replace o6 := Own.below o6 b8
  replace o7 := Own.below o7 b8
  replace rr7 := OwnRows.below rr7 b8
  go_wp2_with fail
  refine (Event.toS_any a0 A0 c0 _ nn0 (r0.later B8)).mono ?_
  rintro e w9 ⟨rfl, o9, b9⟩
  have ho9 := o9
  have B9 : Below w.heap.size w w9 := below_step B8 b9 (Nat.le_refl _)
  have S9 := b9.size
  replace o6 := Own.below o6 b9
  replace o7 := Own.below o7 b9
  replace rr7 := OwnRows.below rr7 b9
  go_wp2_with fail
  refine (Event.eqS_same _ _ _ _ _ _ (by omega) (Own.rd_of Event.enc_len o6) (Own.rd_of Event.enc_len o9)).mono ?_
  rintro e w10 ⟨rfl, b10⟩
  have B10 : Below w.heap.size w w10 := below_step B9 b10 (Nat.le_refl _)
  have S10 := b10.size
  replace o6 := Own.below o6 b10
  replace o7 := Own.below o7 b10
  replace rr7 := OwnRows.below rr7 b10
  replace o9 := Own.below o9 b10
  go_wp2_with fail
  refine (Pattern.toS_any a1 A1 c1 _ nn1 ns1 (r1.later B10) (d1.later B10)).mono ?_
  rintro e w11 ⟨M11, rfl, hp11, o11, rr11, b11⟩
  have ho11 := o11
  have hrr11 := rr11
  have ln11 := Pattern.len_pats hp11
  have sm11 := Pattern.sumC_pats hp11
  have LN11 : M11.length ≤ 1048576 := by omega
  have SM11 : Pattern.sumC M11 ≤ 1048576 := by omega
  clear ln11 sm11
  have B11 : Below w.heap.size w w11 := below_step B10 b11 (Nat.le_refl _)
  have S11 := b11.size
  replace o6 := Own.below o6 b11
  replace o7 := Own.below o7 b11
  replace rr7 := OwnRows.below rr7 b11
  go_wp2_with fail
  refine (Pattern.eqS_same M7 M11 (hp7.trans hp11.symm) _ _ _ _ _ LN7 SM7 (Own.rd_of Pattern.enc_len o7) (Own.rd_of Pattern.enc_len o11) (Pattern.row_deep rr7) (Pattern.row_deep rr11)).mono ?_
  rintro e w12 ⟨rfl, b12⟩
  have B12 : Below w.heap.size w w12 := below_step B11 b12 (Nat.le_refl _)
  have S12 := b12.size
  replace o6 := Own.below o6 b12
  replace o7 := Own.below o7 b12
  replace rr7 := OwnRows.below rr7 b12
  replace o11 := Own.below o11 b12
  replace rr11 := OwnRows.below rr11 b12
  go_wp2_with fail
  go_ret
  exact ⟨rfl, B12⟩
open Go.ChangeShapes Go.WideShapes Go.ChangeAt Go.RowKit
open Go.ChangeMaps (open_string shut_string)
set_option maxRecDepth 100000 in
theorem lifted (os : Os) (started : os.Started) (H : Type) (enc : TypeId × Value → H) :
    ReturnsInHanded {} Try.checked os 6 .any (Rows.fnExactCountMatchesSpec.pre6 enc Try.prog Try.f6 Rows.fnExactCountMatchesRow.domain false) (Rows.fnExactCountMatchesSpec.post enc Try.prog Try.f6 false true false false) := by
  refine returnsInHanded_of_change (C := Try.checked) own started (by kernel_rfl) Try.func6
    (ChangeSpec.witness6 (enc := enc) (C := Try.checked) false ⟨#[], #[.slice none 0 0, .slice none 0 0, .int .i64 0], []⟩ 8 (by kernel_rfl) (by kernel_rfl) (by kernel_rfl) (by kernel_rfl)) ?_
  intro W base args ds gs before hval0 hW hcnd _
  have hval : ∀ (j : Nat) t v, Try.f6.params[j]? = some t → args[j]? = some v → Value.okWide Try.prog W .any base t v := hval0
  have hW' := hW
  obtain ⟨p, q, hA0, hV, rfl, hfz, hnd⟩ := hW
  have hA : DataW.TrodAll enc Try.prog W 0 (fun _ => true) true Try.f6.params.toList args.toList ds p := hA0
  rw [Try.params6] at hA hval
  obtain ⟨v0, vs0, d0, ds0, p0, q0, hargs, rfl, rfl, h0, e0⟩ := trodAll_cons hA
  obtain ⟨v1, vs1, d1, ds1, p1, q1, rfl, rfl, rfl, h1, e1⟩ := trodAll_cons e0
  obtain ⟨v2, vs2, d2, ds2, p2, q2, rfl, rfl, rfl, h2, e2⟩ := trodAll_cons e1
  obtain ⟨rfl, rfl, rfl⟩ := trodAll_nil e2
  obtain rfl : args = #[v0, v1, v2] := by cases args; simp_all
  obtain ⟨rfl, rfl⟩ := trodVars_none hV
  have k0 := h0
  have lt0 : ∀ x ∈ p0, x.block < W.heap.size := by obtain ⟨m, hm⟩ := k0; exact DataW.trod_lt m _ _ _ hm
  obtain ⟨A0, len0, c0, rfl⟩ := okWide_slice Try.underlying22 (hval 0 22 v0 rfl rfl)
  obtain ⟨fu0, hf0⟩ := h0
  obtain ⟨L0, rfl, r0, g0, l0⟩ := open_list (encα := Event.enc) (m := 2) (Good := fun c => c.Ok ∧ c.Fits) Try.underlying22 (by kernel_rfl) (by decide) Event.enc_len Event.el hf0
  have k1 := h1
  have lt1 : ∀ x ∈ p1, x.block < W.heap.size := by obtain ⟨m, hm⟩ := k1; exact DataW.trod_lt m _ _ _ hm
  obtain ⟨A1, len1, c1, rfl⟩ := okWide_slice Try.underlying29 (hval 1 29 v1 rfl rfl)
  obtain ⟨fu1, hf1⟩ := h1
  obtain ⟨L1, rfl, r1, g1, l1⟩ := open_list (encα := Pattern.enc) (m := 3) (Good := fun c => c.Ok ∧ c.Fits ∧ Rd encI 1 W.heap.size W c.ca c.codes) Try.underlying29 (by kernel_rfl) (by decide) Pattern.enc_len Pattern.el hf1
  have k2 := h2
  have lt2 : ∀ x ∈ p2, x.block < W.heap.size := by obtain ⟨m, hm⟩ := k2; exact DataW.trod_lt m _ _ _ hm
  obtain ⟨a2, rfl, rfl, rfl, wf2⟩ := open_int Try.underlying3 (hval 2 3 v2 rfl rfl) h2
  clear hA0 hval0
  refine (walk L0 A0 c0 L1 A1 c1 a2 W r0 (fun c hc => (g0 c hc).1) (fun c hc => (g0 c hc).2) l0 r1 (fun c hc => (g1 c hc).1) (fun c hc => (g1 c hc).2.1) l1 (fun c hc => (g1 c hc).2.2) wf2).mono fun e W' ⟨he, bel⟩ => ?_
  subst he
  exact ⟨_, rfl, _, _, _, [], _, [], hW', trodAll_mk1 (shut_bool Try.underlying4 _), (trodAll_cons_mk (Below.trod laidOut (by kernel_rfl) (of_decide_eq_true (by kernel_rfl)) k0 bel lt0) (trodAll_cons_mk (Below.trod laidOut (by kernel_rfl) (of_decide_eq_true (by kernel_rfl)) k1 bel lt1) (trodAll_cons_mk (Below.trod laidOut (by kernel_rfl) (of_decide_eq_true (by kernel_rfl)) k2 bel lt2) trodAll_mk0))), rfl, bel.frame _, fun h => by cases h⟩
theorem over : Rows.fnExactCountMatchesRow.holds Try.pinned (OpenSpec.ofChange Rows.fnExactCountMatchesSpec) :=
  OpenClaim.holds_of_wide 6 Try.f6 rfl rfl rfl rfl rfl rfl rfl ⟨rfl, rfl, rfl, rfl, rfl⟩ rfl rfl rfl rfl rfl (by kernel_rfl) Try.func6 (by kernel_rfl)
    (of_decide_eq_true (by kernel_rfl)) (by unfold Func.isWrapper; first | (rw [if_pos (by decide +kernel)]; kernel_rfl) | (rw [if_neg (by decide +kernel)]; exact ⟨rfl, rfl⟩))
    (fun os started H enc _ => lifted os started H enc)
theorem proved : Rows.FnExactCountMatchesSaid := over
#print axioms proved
end Go.Proofs.Ytmnepaedkilnoaa.lawExactCountMatches
