/- The law FnExactArePatterns: for every input its call returns true and changes nothing that was there. No condition. -/
import Derived.Test.YtmnepaedkilnoaaPats
import Derived.Test.YtmnepaedkilnoaaOpen
namespace Go.Proofs.Ytmnepaedkilnoaa.lawExactArePatterns
open Go Go.RowKit
set_option linter.unusedVariables false
set_option maxRecDepth 100000 in
set_option maxHeartbeats 2000000 in
theorem walk (a0 : List Pattern) (A0 : Option Addr) (c0 : Nat) (w : World) (r0 : Rd Pattern.enc 3 w.heap.size w A0 a0) (ok0 : ∀ c ∈ a0, c.Ok) (f0 : ∀ c ∈ a0, c.Fits) (l0 : a0.length ≤ maxLen) (d0 : Pattern.DeepP w.heap.size w a0) :
    Calls Try.prog 4 #[.slice A0 a0.length c0] w fun e w' => e = .returned (.bool true) ∧ Below w.heap.size w w' := by
  by_cases z0 : Pattern.szS a0 (1048576) < 0
  · go_enter Try.func4, Try.ntmps4
    go_wp2_with fail
    refine (Pattern.szS_any a0 A0 c0 _ _ r0 (ok0) (l0) (by omega) (by omega)).mono ?_
    rintro e y1 ⟨rfl, x1⟩
    have X1 := x1
    go_wp2_with fail
    go_ret
    exact ⟨rfl, X1⟩
  obtain ⟨n0, m0⟩ := Pattern.szS_fit (L := a0) (left := 1048576) (by omega)
  have nn0 : a0.length ≤ 1048576 := by omega
  have ns0 : Pattern.sumC a0 ≤ 1048576 := by omega
  go_enter Try.func4, Try.ntmps4
  go_wp2_with fail
  refine (Pattern.szS_any a0 A0 c0 _ _ r0 (ok0) (l0) (by omega) (by omega)).mono ?_
  rintro e w1 ⟨rfl, b1⟩
  have B1 : Below w.heap.size w w1 := b1
  have S1 := B1.size
  go_wp2_with fail
  refine (Pattern.toS_any a0 A0 c0 _ nn0 ns0 (r0.later B1) (d0.later B1)).mono ?_
  rintro e w2 ⟨M2, rfl, hp2, o2, rr2, b2⟩
  have ho2 := o2
  have hrr2 := rr2
  have ln2 := Pattern.len_pats hp2
  have sm2 := Pattern.sumC_pats hp2
  have LN2 : M2.length ≤ 1048576 := by omega
  have SM2 : Pattern.sumC M2 ≤ 1048576 := by omega
  clear ln2 sm2
  have B2 : Below w.heap.size w w2 := below_step B1 b2 (Nat.le_refl _)
  have S2 := b2.size
  go_wp2_with fail
  refine (ArePatterns_spec hp2 _ _ _ (Own.rd_of Pattern.enc_len o2) (Pattern.ok_pats hp2 ok0) (by unfold maxLen; omega) (Pattern.row_deep rr2)).mono ?_
  rintro e w3 ⟨rfl, b3⟩
  have B3 : Below w.heap.size w w3 := below_step B2 b3 (Nat.le_refl _)
  have S3 := b3.size
  replace o2 := Own.below o2 b3
  replace rr2 := OwnRows.below rr2 b3
  go_wp2_with fail
  refine (Pattern.toS_any a0 A0 c0 _ nn0 ns0 (r0.later B3) (d0.later B3)).mono ?_
  rintro e w4 ⟨M4, rfl, hp4, o4, rr4, b4⟩
  have ho4 := o4
  have hrr4 := rr4
  have ln4 := Pattern.len_pats hp4
  have sm4 := Pattern.sumC_pats hp4
  have LN4 : M4.length ≤ 1048576 := by omega
  have SM4 : Pattern.sumC M4 ≤ 1048576 := by omega
  clear ln4 sm4
  have B4 : Below w.heap.size w w4 := below_step B3 b4 (Nat.le_refl _)
  have S4 := b4.size
  go_wp2_with fail
  refine (ArePatterns_is hp4 rfl _ _ _ (Own.rd_of Pattern.enc_len o4) (Pattern.ok_pats hp4 ok0) (by unfold maxLen; omega) (Pattern.row_deep rr4)).mono ?_
  rintro e w5 ⟨rfl, b5⟩
  have B5 : Below w.heap.size w w5 := below_step B4 b5 (Nat.le_refl _)
  have S5 := b5.size
  replace o4 := Own.below o4 b5
  replace rr4 := OwnRows.below rr4 b5
  go_wp2_with fail
  refine (Pattern.toS_any a0 A0 c0 _ nn0 ns0 (r0.later B5) (d0.later B5)).mono ?_
  rintro e w6 ⟨M6, rfl, hp6, o6, rr6, b6⟩
  have ho6 := o6
  have hrr6 := rr6
  have ln6 := Pattern.len_pats hp6
  have sm6 := Pattern.sumC_pats hp6
  have LN6 : M6.length ≤ 1048576 := by omega
  have SM6 : Pattern.sumC M6 ≤ 1048576 := by omega
  clear ln6 sm6
  have B6 : Below w.heap.size w w6 := below_step B5 b6 (Nat.le_refl _)
  have S6 := b6.size
  replace o4 := Own.below o4 b6
  replace rr4 := OwnRows.below rr4 b6
  go_wp2_with fail
  refine (Pattern.eqS_same M4 M6 (hp4.trans hp6.symm) _ _ _ _ _ LN4 SM4 (Own.rd_of Pattern.enc_len o4) (Own.rd_of Pattern.enc_len o6) (Pattern.row_deep rr4) (Pattern.row_deep rr6)).mono ?_
  rintro e w7 ⟨rfl, b7⟩
  have B7 : Below w.heap.size w w7 := below_step B6 b7 (Nat.le_refl _)
  have S7 := b7.size
  replace o4 := Own.below o4 b7
  replace rr4 := OwnRows.below rr4 b7
  replace o6 := Own.below o6 b7
  replace rr6 := OwnRows.below rr6 b7
  go_wp2_with fail
  go_ret
  exact ⟨rfl, B7⟩
open Go.ChangeShapes Go.WideShapes Go.ChangeAt Go.RowKit
open Go.ChangeMaps (open_string shut_string)
set_option maxRecDepth 100000 in
theorem lifted (os : Os) (started : os.Started) (H : Type) (enc : TypeId × Value → H) :
    ReturnsInHanded {} Try.checked os 4 .any (Rows.fnExactArePatternsSpec.pre6 enc Try.prog Try.f4 Rows.fnExactArePatternsRow.domain false) (Rows.fnExactArePatternsSpec.post enc Try.prog Try.f4 false true false false) := by
  refine returnsInHanded_of_change (C := Try.checked) own started (by kernel_rfl) Try.func4
    (ChangeSpec.witness6 (enc := enc) (C := Try.checked) false ⟨#[], #[.slice none 0 0], []⟩ 8 (by kernel_rfl) (by kernel_rfl) (by kernel_rfl) (by kernel_rfl)) ?_
  intro W base args ds gs before hval0 hW hcnd _
  have hval : ∀ (j : Nat) t v, Try.f4.params[j]? = some t → args[j]? = some v → Value.okWide Try.prog W .any base t v := hval0
  have hW' := hW
  obtain ⟨p, q, hA0, hV, rfl, hfz, hnd⟩ := hW
  have hA : DataW.TrodAll enc Try.prog W 0 (fun _ => true) true Try.f4.params.toList args.toList ds p := hA0
  rw [Try.params4] at hA hval
  obtain ⟨v0, vs0, d0, ds0, p0, q0, hargs, rfl, rfl, h0, e0⟩ := trodAll_cons hA
  obtain ⟨rfl, rfl, rfl⟩ := trodAll_nil e0
  obtain rfl : args = #[v0] := by cases args; simp_all
  obtain ⟨rfl, rfl⟩ := trodVars_none hV
  have k0 := h0
  have lt0 : ∀ x ∈ p0, x.block < W.heap.size := by obtain ⟨m, hm⟩ := k0; exact DataW.trod_lt m _ _ _ hm
  obtain ⟨A0, len0, c0, rfl⟩ := okWide_slice Try.underlying29 (hval 0 29 v0 rfl rfl)
  obtain ⟨fu0, hf0⟩ := h0
  obtain ⟨L0, rfl, r0, g0, l0⟩ := open_list (encα := Pattern.enc) (m := 3) (Good := fun c => c.Ok ∧ c.Fits ∧ Rd encI 1 W.heap.size W c.ca c.codes) Try.underlying29 (by kernel_rfl) (by decide) Pattern.enc_len Pattern.el hf0
  clear hA0 hval0
  refine (walk L0 A0 c0 W r0 (fun c hc => (g0 c hc).1) (fun c hc => (g0 c hc).2.1) l0 (fun c hc => (g0 c hc).2.2)).mono fun e W' ⟨he, bel⟩ => ?_
  subst he
  exact ⟨_, rfl, _, _, _, [], _, [], hW', trodAll_mk1 (shut_bool Try.underlying4 _), (trodAll_cons_mk (Below.trod laidOut (by kernel_rfl) (of_decide_eq_true (by kernel_rfl)) k0 bel lt0) trodAll_mk0), rfl, bel.frame _, fun h => by cases h⟩
theorem over : Rows.fnExactArePatternsRow.holds Try.pinned (OpenSpec.ofChange Rows.fnExactArePatternsSpec) :=
  OpenClaim.holds_of_wide 4 Try.f4 rfl rfl rfl rfl rfl rfl rfl ⟨rfl, rfl, rfl, rfl, rfl⟩ rfl rfl rfl rfl rfl (by kernel_rfl) Try.func4 (by kernel_rfl)
    (of_decide_eq_true (by kernel_rfl)) (by unfold Func.isWrapper; first | (rw [if_pos (by decide +kernel)]; kernel_rfl) | (rw [if_neg (by decide +kernel)]; exact ⟨rfl, rfl⟩))
    (fun os started H enc _ => lifted os started H enc)
theorem proved : Rows.FnExactArePatternsSaid := over
#print axioms proved
end Go.Proofs.Ytmnepaedkilnoaa.lawExactArePatterns
