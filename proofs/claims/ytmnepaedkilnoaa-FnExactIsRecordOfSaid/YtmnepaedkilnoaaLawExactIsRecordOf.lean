/- The law FnExactIsRecordOf: for every input its call returns true and changes nothing that was there. No condition. -/
import Derived.Test.YtmnepaedkilnoaaRec
import Derived.Test.YtmnepaedkilnoaaOpen
namespace Go.Proofs.Ytmnepaedkilnoaa.lawExactIsRecordOf
open Go Go.RowKit
set_option linter.unusedVariables false
set_option maxRecDepth 100000 in
set_option maxHeartbeats 2000000 in
theorem walk (a0 : List Event) (A0 : Option Addr) (c0 : Nat) (w : World) (r0 : Rd Event.enc 2 w.heap.size w A0 a0) (ok0 : ∀ c ∈ a0, c.Ok) (f0 : ∀ c ∈ a0, c.Fits) (l0 : a0.length ≤ maxLen) :
    Calls Try.prog 3 #[.slice A0 a0.length c0] w fun e w' => e = .returned (.bool true) ∧ Below w.heap.size w w' := by
  by_cases z0 : Event.szS a0 (1048576) < 0
  · go_enter Try.func3, Try.ntmps3
    go_wp2_with fail
    refine (Event.szS_any a0 A0 c0 _ _ (l0) (by omega) (by omega)).mono ?_
    rintro e y1 ⟨rfl, x1⟩
    have X1 := x1
    go_wp2_with fail
    go_ret
    exact ⟨rfl, X1⟩
  obtain ⟨n0, m0⟩ := Event.szS_fit (L := a0) (left := 1048576) (by omega)
  have nn0 : a0.length ≤ 1048576 := by omega
  go_enter Try.func3, Try.ntmps3
  go_wp2_with fail
  refine (Event.szS_any a0 A0 c0 _ _ (l0) (by omega) (by omega)).mono ?_
  rintro e w1 ⟨rfl, b1⟩
  have B1 : Below w.heap.size w w1 := b1
  have S1 := B1.size
  go_wp2_with fail
  refine (Event.toS_any a0 A0 c0 _ nn0 (r0.later B1)).mono ?_
  rintro e w2 ⟨rfl, o2, b2⟩
  have ho2 := o2
  have B2 : Below w.heap.size w w2 := below_step B1 b2 (Nat.le_refl _)
  have S2 := b2.size
  go_wp2_with fail
  refine (IsRecordOf_spec _ _ _ _ (Own.rd_of Event.enc_len o2) (ok0) (by unfold maxLen; omega)).mono ?_
  rintro e w3 ⟨rfl, b3⟩
  have B3 : Below w.heap.size w w3 := below_step B2 b3 (Nat.le_refl _)
  have S3 := b3.size
  replace o2 := Own.below o2 b3
  go_wp2_with fail
  refine (Event.toS_any a0 A0 c0 _ nn0 (r0.later B3)).mono ?_
  rintro e w4 ⟨rfl, o4, b4⟩
  have ho4 := o4
  have B4 : Below w.heap.size w w4 := below_step B3 b4 (Nat.le_refl _)
  have S4 := b4.size
  go_wp2_with fail
  refine (IsRecordOf_any _ _ _ _ (Own.rd_of Event.enc_len o4) (ok0) (by unfold maxLen; omega)).mono ?_
  rintro e w5 ⟨rfl, b5⟩
  have B5 : Below w.heap.size w w5 := below_step B4 b5 (Nat.le_refl _)
  have S5 := b5.size
  replace o4 := Own.below o4 b5
  go_wp2_with fail
  refine (Event.toS_any a0 A0 c0 _ nn0 (r0.later B5)).mono ?_
  rintro e w6 ⟨rfl, o6, b6⟩
  have ho6 := o6
  have B6 : Below w.heap.size w w6 := below_step B5 b6 (Nat.le_refl _)
  have S6 := b6.size
  replace o4 := Own.below o4 b6
  go_wp2_with fail
  refine (Event.eqS_same _ _ _ _ _ _ (by omega) (Own.rd_of Event.enc_len o4) (Own.rd_of Event.enc_len o6)).mono ?_
  rintro e w7 ⟨rfl, b7⟩
  have B7 : Below w.heap.size w w7 := below_step B6 b7 (Nat.le_refl _)
  have S7 := b7.size
  replace o4 := Own.below o4 b7
  replace o6 := Own.below o6 b7
  go_wp2_with fail
  go_ret
  exact ⟨rfl, B7⟩
open Go.ChangeShapes Go.WideShapes Go.ChangeAt Go.RowKit
open Go.ChangeMaps (open_string shut_string)
set_option maxRecDepth 100000 in
theorem lifted (os : Os) (started : os.Started) (H : Type) (enc : TypeId × Value → H) :
    ReturnsInHanded {} Try.checked os 3 .any (Rows.fnExactIsRecordOfSpec.pre6 enc Try.prog Try.f3 Rows.fnExactIsRecordOfRow.domain false) (Rows.fnExactIsRecordOfSpec.post enc Try.prog Try.f3 false true false false) := by
  refine returnsInHanded_of_change (C := Try.checked) own started (by kernel_rfl) Try.func3
    (ChangeSpec.witness6 (enc := enc) (C := Try.checked) false ⟨#[], #[.slice none 0 0], []⟩ 8 (by kernel_rfl) (by kernel_rfl) (by kernel_rfl) (by kernel_rfl)) ?_
  intro W base args ds gs before hval0 hW hcnd _
  have hval : ∀ (j : Nat) t v, Try.f3.params[j]? = some t → args[j]? = some v → Value.okWide Try.prog W .any base t v := hval0
  have hW' := hW
  obtain ⟨p, q, hA0, hV, rfl, hfz, hnd⟩ := hW
  have hA : DataW.TrodAll enc Try.prog W 0 (fun _ => true) true Try.f3.params.toList args.toList ds p := hA0
  rw [Try.params3] at hA hval
  obtain ⟨v0, vs0, d0, ds0, p0, q0, hargs, rfl, rfl, h0, e0⟩ := trodAll_cons hA
  obtain ⟨rfl, rfl, rfl⟩ := trodAll_nil e0
  obtain rfl : args = #[v0] := by cases args; simp_all
  obtain ⟨rfl, rfl⟩ := trodVars_none hV
  have k0 := h0
  have lt0 : ∀ x ∈ p0, x.block < W.heap.size := by obtain ⟨m, hm⟩ := k0; exact DataW.trod_lt m _ _ _ hm
  obtain ⟨A0, len0, c0, rfl⟩ := okWide_slice Try.underlying22 (hval 0 22 v0 rfl rfl)
  obtain ⟨fu0, hf0⟩ := h0
  obtain ⟨L0, rfl, r0, g0, l0⟩ := open_list (encα := Event.enc) (m := 2) (Good := fun c => c.Ok ∧ c.Fits) Try.underlying22 (by kernel_rfl) (by decide) Event.enc_len Event.el hf0
  clear hA0 hval0
  refine (walk L0 A0 c0 W r0 (fun c hc => (g0 c hc).1) (fun c hc => (g0 c hc).2) l0).mono fun e W' ⟨he, bel⟩ => ?_
  subst he
  exact ⟨_, rfl, _, _, _, [], _, [], hW', trodAll_mk1 (shut_bool Try.underlying4 _), (trodAll_cons_mk (Below.trod laidOut (by kernel_rfl) (of_decide_eq_true (by kernel_rfl)) k0 bel lt0) trodAll_mk0), rfl, bel.frame _, fun h => by cases h⟩
theorem over : Rows.fnExactIsRecordOfRow.holds Try.pinned (OpenSpec.ofChange Rows.fnExactIsRecordOfSpec) :=
  OpenClaim.holds_of_wide 3 Try.f3 rfl rfl rfl rfl rfl rfl rfl ⟨rfl, rfl, rfl, rfl, rfl⟩ rfl rfl rfl rfl rfl (by kernel_rfl) Try.func3 (by kernel_rfl)
    (of_decide_eq_true (by kernel_rfl)) (by unfold Func.isWrapper; first | (rw [if_pos (by decide +kernel)]; kernel_rfl) | (rw [if_neg (by decide +kernel)]; exact ⟨rfl, rfl⟩))
    (fun os started H enc _ => lifted os started H enc)
theorem proved : Rows.FnExactIsRecordOfSaid := over
#print axioms proved
end Go.Proofs.Ytmnepaedkilnoaa.lawExactIsRecordOf
