/- The law FnStaff: for every input its call returns true and changes nothing that was there. A plan without a sick worker's shifts is a plan, its hours are less, and duties are counted for everybody. No condition. -/
import Derived.Test.YtfaicjlpncidgaaStaffL
import Derived.Test.YtfaicjlpncidgaaDrawX22
import Derived.Deep.DeepCutAuto
import Derived.Test.YtfaicjlpncidgaaOpen
namespace Go.Proofs.Ytfaicjlpncidgaa.lawStaff
open Go Go.RowKit
set_option linter.unusedVariables false
set_option maxRecDepth 100000 in
set_option maxHeartbeats 8000000 in
theorem walk (Lc : List Int) (A : Option Addr) (cap : Nat) (w : World) (hc : CodeIs w A Lc) :
    Calls Try.prog 8 #[.slice A Lc.length cap] w fun e w' => e = .returned (.bool true) ∧ Below w.heap.size w w' := by
  have hl := hc.1
  by_cases hbig : (65536 : Int) < (Lc.length : Int)
  · have hd : decide ((65536 : Int) < (Lc.length : Int)) = true := by simpa using hbig
    go_enter Try.func8, Try.ntmps8
    go_wp2_with fail
    refine (rBig_any _ A cap w hl).mono ?_
    rintro e w1 ⟨rfl, rfl⟩
    rw [hd]; clear hd hbig
    go_wp2_with fail
    go_ret
    exact ⟨rfl, Below.refl _ _⟩
  have hd : decide ((65536 : Int) < (Lc.length : Int)) = false := by simpa using hbig
  go_enter Try.func8, Try.ntmps8
  go_wp2_with fail
  refine (rBig_any _ A cap w hl).mono ?_
  rintro e wj ⟨rfl, rfl⟩
  rw [hd]; clear hd hbig
  have BJ : Below w.heap.size w w := Below.refl _ _
  obtain ⟨wj, hwj⟩ : ∃ wj, wj = w := ⟨_, rfl⟩
  have hcj : CodeIs wj A Lc := hwj ▸ hc
  have BJ : Below w.heap.size w wj := hwj ▸ BJ
  go_wp2_with fail
  rw [← hwj]; clear hwj
  refine (DrawSickWorker_any A Lc cap _ hcj).mono ?_
  rintro e wj ⟨AS, nS, cS, S, AP, nP, cP, P, id, fr, rfl, rfl, zS, sOk, RS, rfl, zP, qP, nilP, RP, b1⟩
  have BJ := below_step BJ b1 (Nat.le_refl _); have hcj := hcj.later b1; clear b1
  have hql := sickL_len S P id fr; have hsf := sick_facts (staff := S) (plan := P) (id := id) (from_ := fr)
  obtain ⟨Q, hQ⟩ : ∃ Q, Q = sickL S P id fr := ⟨_, rfl⟩
  obtain ⟨nn, hnn⟩ : ∃ nn, nn = sickN S P id fr := ⟨_, rfl⟩
  obtain ⟨ob, hob⟩ : ∃ ob, ob = sickB S P id fr := ⟨_, rfl⟩
  rw [← hQ, ← hnn, ← hob] at hsf; rw [← hQ] at hql
  have HSF := hide hsf; have HQ := hide hQ; have HNN := hide hnn; have HOB := hide hob; clear hsf hQ hnn hob
  go_wp2_with fail
  refine (SickWorker_any S P id fr _ _ _ _ _ RS RP sOk (by unfold maxLen; omega) (by unfold maxLen; omega) qP).mono ?_
  rintro e wj ⟨Au, cu, rfl, hou, b1⟩
  have BJ := below_step BJ b1 (Nat.le_refl _); have hcj := hcj.later b1; replace RS := Rd.later RS b1; replace RP := Rd.later RP b1
  have Ru := Own.rd_of Shift.enc_len hou; have qu := own_cap hou; clear hou b1
  rw [← HQ.out, ← HNN.out, ← HOB.out]; rw [← HQ.out] at Ru qu
  go_wp2_with fail
  refine (SickWorker_spec S P id fr _ _ _ _ _ RS RP sOk (by unfold maxLen; omega) (by unfold maxLen; omega)).mono ?_
  rintro e wj ⟨Av, cv, rfl, hov, b1⟩
  have BJ := below_step BJ b1 (Nat.le_refl _); have hcj := hcj.later b1; replace RS := Rd.later RS b1; replace RP := Rd.later RP b1
  replace Ru := Rd.later Ru b1
  have Rv := Own.rd_of Shift.enc_len hov; have qv := own_cap hov; clear hov b1
  rw [← HQ.out, ← HNN.out, ← HOB.out]; rw [← HQ.out] at Rv; clear qv
  go_wp2_with fail
  refine (rShifts_same Q Q.length rfl _ _ _ _ _ (by omega) Ru Rv).mono ?_
  rintro e wj ⟨rfl, b1⟩
  have BJ := below_step BJ b1 (Nat.le_refl _); have hcj := hcj.later b1; replace RS := Rd.later RS b1; replace RP := Rd.later RP b1; replace Ru := Rd.later Ru b1; clear b1 Rv
  go_upto_if 74 with fail
  go_cut [13, 14, 15, 16, 17, 18] (fun _ _ _ _ _ _ wx => Below w.heap.size w wx)
  case first =>
    as_aux_lemma =>
      cases ob
      · go_wp2_with fail
        go_meet
        exact BJ
      · obtain ⟨e1, e2, e3, e4, e5, e6, e7⟩ := HSF.out rfl
        obtain ⟨⟨ha, la, ba⟩, hR1⟩ : ∃ t, t = hoursR S P id := ⟨_, rfl⟩
        obtain ⟨⟨hb, lb, bb⟩, hR2⟩ : ∃ t, t = hoursR S Q id := ⟨_, rfl⟩
        rw [← hR1] at e1 e3 e4; rw [← hR2] at e2 e3 e5
        simp only at e1 e2 e3 e4 e5
        subst e1 e2
        have H1 := hide hR1; have H2 := hide hR2; have HPQ := hide e6; clear hR1 hR2 e6
        go_wp2_with fail
        refine (HoursOf_any S P id _ _ _ _ _ RS RP sOk (by unfold maxLen; omega) (by unfold maxLen; omega) qP).mono ?_
        rintro e wj ⟨rfl, b1⟩
        have BJ := below_step BJ b1 (Nat.le_refl _); have hcj := hcj.later b1; replace RS := Rd.later RS b1; replace RP := Rd.later RP b1
        replace Ru := Rd.later Ru b1
        clear b1
        rw [← H1.out]
        go_wp2_with fail
        refine (HoursOf_any S Q id _ _ _ _ _ RS Ru sOk (by unfold maxLen; omega) (by unfold maxLen; omega) qu).mono ?_
        rintro e wj ⟨rfl, b1⟩
        have BJ := below_step BJ b1 (Nat.le_refl _); have hcj := hcj.later b1; replace RS := Rd.later RS b1; replace RP := Rd.later RP b1; replace Ru := Rd.later Ru b1; clear b1
        rw [← H2.out]
        obtain ⟨e40, e41⟩ := e4; obtain ⟨e50, e51⟩ := e5
        have hw1 : IntKind.i64.wrap (ha - hb) = ha - hb := by rw [IntKind.wrap_i64]; omega
        have hw2 : IntKind.i64.wrap (8 * nn) = 8 * nn := by rw [IntKind.wrap_i64]; omega
        have hw3 : IntKind.i64.wrap ((Q.length : Int) + nn) = (P.length : Int) := by rw [IntKind.wrap_i64]; omega
        have he : (ha - hb == 8 * nn) = true := by simpa using e3
        go_wp2_with (go_at_call 28; refine (IsPlan_is HPQ.out _ _ _ _ _ RS Ru sOk (by unfold maxLen; omega) (by unfold maxLen; omega) qu).mono ?_; rintro e wk ⟨rfl, b1⟩; have BJ := below_step BJ b1 (Nat.le_refl _))
        go_meet
        exact BJ
  clear RS RP Ru hcj BJ HSF HQ HNN HOB hql zS sOk zP qP nilP qu
  have BJ := hcut; clear hcut
  as_aux_lemma =>
  have hcj := hc.later BJ
  go_wp2_with fail
  refine (DrawDutyCounts_any A Lc cap _ hcj).mono ?_
  rintro e wj ⟨AS, nS, cS, S, rfl, rfl, zS, sOk, RS, b1⟩
  have BJ := below_step BJ b1 (Nat.le_refl _); have hcj := hcj.later b1; clear b1
  have hdl := dutyL_len S; have hdf := duty_facts (L := S); have hd0 : staffB S = false → dutyL S = [] := fun h => by simp [dutyL, h]
  obtain ⟨V, hV⟩ : ∃ V, V = dutyL S := ⟨_, rfl⟩
  obtain ⟨fb, hfb⟩ : ∃ fb, fb = staffB S := ⟨_, rfl⟩
  rw [← hV] at hdl hdf hd0; rw [← hfb] at hdf hd0
  have HV := hide hV; have HFB := hide hfb; have HDF := hide hdf; have HD0 := hide hd0; clear hV hfb hdf hd0
  go_wp2_with fail
  refine (DutyCounts_any S _ _ _ RS sOk (by unfold maxLen; omega)).mono ?_
  rintro e wj ⟨Au, cu, rfl, hou, b1⟩
  have BJ := below_step BJ b1 (Nat.le_refl _); have hcj := hcj.later b1; replace RS := Rd.later RS b1
  have Ru := Own.rd_of encI_len hou; have qu := own_cap hou; clear hou b1
  rw [← HV.out, ← HFB.out]; rw [← HV.out] at Ru; clear qu
  go_wp2_with fail
  refine (DutyCounts_spec S _ _ _ RS sOk (by unfold maxLen; omega)).mono ?_
  rintro e wj ⟨Av, cv, rfl, hov, b1⟩
  have BJ := below_step BJ b1 (Nat.le_refl _); have hcj := hcj.later b1; replace RS := Rd.later RS b1
  replace Ru := Rd.later Ru b1
  have Rv := Own.rd_of encI_len hov; have qv := own_cap hov; clear hov b1
  rw [← HV.out, ← HFB.out]; rw [← HV.out] at Rv; clear qv
  have BK := Below.refl wj.heap.size wj
  go_upto_region 16 with fail
  go_cut [156] (fun s wx => s = .bool false ∧ Below wj.heap.size wj wx)
  case first =>
    as_aux_lemma =>
      cases fb
      · have hV0 := HD0.out rfl
        subst hV0
        go_wp2_with (first | (go_at_call 40; refine (rInts_same [] 0 rfl _ _ _ _ _ (by omega) Ru Rv).mono ?_; rintro e wk ⟨rfl, b1⟩; have BK := below_step BK b1 (Nat.le_refl _); replace RS := Rd.later RS b1; replace Ru := Rd.later Ru b1; clear b1) | (go_at_call 17; refine (AreStaff_is HFB.out.symm _ _ _ RS sOk (by unfold maxLen; omega)).mono ?_; rintro e wk ⟨rfl, b1⟩; have BK := below_step BK b1 (Nat.le_refl _); replace Ru := Rd.later Ru b1; clear b1))
        go_meet; exact ⟨rfl, BK⟩
      · obtain ⟨d1, d2⟩ := HDF.out rfl
        have hns : ¬ V.sum < (S.length : Int) := by omega
        have HD1 := hide (fun (x : Int) (hx : x ∈ V) => (⟨(d1 x hx).1, by have := (d1 x hx).2; omega⟩ : 0 ≤ x ∧ x ≤ 1000)); clear d1
        go_wp2_with (first | (go_at_call 40; refine (rInts_same V V.length rfl _ _ _ _ _ (by omega) Ru Rv).mono ?_; rintro e wk ⟨rfl, b1⟩; have BK := below_step BK b1 (Nat.le_refl _); replace RS := Rd.later RS b1; replace Ru := Rd.later Ru b1; clear b1) | (go_at_call 17; refine (AreStaff_is HFB.out.symm _ _ _ RS sOk (by unfold maxLen; omega)).mono ?_; rintro e wk ⟨rfl, b1⟩; have BK := below_step BK b1 (Nat.le_refl _); replace Ru := Rd.later Ru b1; clear b1) | (go_at_call 41; refine (rSum_any V _ _ _ (by omega) HD1.out Ru).mono ?_; rintro e wk ⟨rfl, rfl⟩))
        go_meet; exact ⟨congrArg Value.bool (decide_eq_false (by omega)), BK⟩
  obtain ⟨rfl, b1⟩ := hcut
  have BJ := below_step BJ b1 (Nat.le_refl _); clear b1 BK Ru Rv RS hcj HV HFB HDF HD0 hdl sOk zS
  as_aux_lemma =>
  have hcj := hc.later BJ
  go_wp2_with fail
  refine (DrawHoursOf_any A Lc cap _ hcj).mono ?_
  rintro e wj ⟨AS, nS, cS, S, AP, nP, cP, P, id, rfl, rfl, zS, sOk, RS, rfl, zP, qP, nilP, RP, b1⟩
  have BJ := below_step BJ b1 (Nat.le_refl _); have hcj := hcj.later b1; clear b1
  obtain ⟨⟨ha, la, ba⟩, hR1⟩ : ∃ t, t = hoursR S P id := ⟨_, rfl⟩
  have H1 := hide hR1; clear hR1
  go_wp2_with fail
  refine (HoursOf_any S P id _ _ _ _ _ RS RP sOk (by unfold maxLen; omega) (by unfold maxLen; omega) qP).mono ?_
  rintro e wj ⟨rfl, b1⟩
  have BJ := below_step BJ b1 (Nat.le_refl _); have hcj := hcj.later b1; replace RS := Rd.later RS b1; replace RP := Rd.later RP b1
  clear b1
  rw [← H1.out]
  go_wp2_with fail
  refine (HoursOf_spec S P id _ _ _ _ _ RS RP sOk (by unfold maxLen; omega) (by unfold maxLen; omega)).mono ?_
  rintro e wj ⟨rfl, b1⟩
  have BJ := below_step BJ b1 (Nat.le_refl _); have hcj := hcj.later b1; replace RS := Rd.later RS b1; replace RP := Rd.later RP b1
  clear b1
  rw [← H1.out]
  go_wp2_with fail
  all_goals (go_ret; exact ⟨by first | rfl | (refine ret_bool ?_; simp), BJ⟩)
open Go.ChangeShapes Go.WideShapes Go.ChangeAt Go.RowKit
theorem elU8 {H : Type} {enc : TypeId × Value → H} {w : World} {base : Nat} {spare : Nat → Bool} {held : Bool} (n : Nat) (cs : List Value) (y : DataW H × List MemPlace) (h : DataW.trod enc Try.prog w base spare held n 5 cs = some y) : ∃ c : Int, cs = encU8 c ∧ 0 ≤ c ∧ c < 256 := by
  obtain ⟨k, hk, _, hw⟩ := DataW.trod_int Try.underlying5 h
  have hw2 : 0 ≤ k ∧ k ≤ 255 := by simpa [Lit.wf, IntKind.min, IntKind.max, IntKind.bits, IntKind.signed] using hw
  exact ⟨k, hk, by omega, by omega⟩
set_option maxRecDepth 100000 in
theorem lifted (os : Os) (started : os.Started) (H : Type) (enc : TypeId × Value → H) :
    ReturnsInHanded {} Try.checked os 8 .any (Rows.fnStaffSpec.pre6 enc Try.prog Try.f8 Rows.fnStaffRow.domain false) (Rows.fnStaffSpec.post enc Try.prog Try.f8 false true false false) := by
  refine returnsInHanded_of_change (C := Try.checked) own started (by kernel_rfl) Try.func8
    (ChangeSpec.witness6 (enc := enc) (C := Try.checked) false ⟨#[], #[.slice none 0 0], []⟩ 8 (by kernel_rfl) (by kernel_rfl) (by kernel_rfl) (by kernel_rfl)) ?_
  intro W base args ds gs before hval0 hW hcnd _
  have hval : ∀ (j : Nat) t v, Try.f8.params[j]? = some t → args[j]? = some v → Value.okWide Try.prog W .any base t v := hval0
  have hW' := hW
  obtain ⟨p, q, hA0, hV, rfl, hfz, hnd⟩ := hW
  have hA : DataW.TrodAll enc Try.prog W 0 (fun _ => true) true Try.f8.params.toList args.toList ds p := hA0
  rw [Try.params8] at hA hval
  obtain ⟨v0, vs0, d0, ds0, p0, q0, hargs, rfl, rfl, h0, e0⟩ := trodAll_cons hA
  obtain ⟨rfl, rfl, rfl⟩ := trodAll_nil e0
  obtain rfl : args = #[v0] := by cases args; simp_all
  obtain ⟨rfl, rfl⟩ := trodVars_none hV
  have k0 := h0
  have lt0 : ∀ x ∈ p0, x.block < W.heap.size := by obtain ⟨m, hm⟩ := k0; exact DataW.trod_lt m _ _ _ hm
  obtain ⟨A0, len0, c0, rfl⟩ := okWide_slice Try.underlying49 (hval 0 49 v0 rfl rfl)
  obtain ⟨fu0, hf0⟩ := h0
  obtain ⟨L0, rfl, r0, g0, l0⟩ := open_list (encα := encU8) (m := 1) (Good := fun c => 0 ≤ c ∧ c < 256) Try.underlying49 (by kernel_rfl) (by decide) encU8_len elU8 hf0
  clear hA0 hval0
  refine (walk L0 A0 c0 W ⟨l0, g0, r0⟩).mono fun e W' ⟨he, bel⟩ => ?_
  subst he
  exact ⟨_, rfl, _, _, _, [], _, [], hW', trodAll_mk1 (shut_bool Try.underlying4 _), (trodAll_cons_mk (Below.trod laidOut (by kernel_rfl) (of_decide_eq_true (by kernel_rfl)) k0 bel lt0) trodAll_mk0), rfl, bel.frame _, fun h => by cases h⟩
theorem over : Rows.fnStaffRow.holds Try.pinned (OpenSpec.ofChange Rows.fnStaffSpec) :=
  OpenClaim.holds_of_wide 8 Try.f8 rfl rfl rfl rfl rfl rfl rfl ⟨rfl, rfl, rfl, rfl, rfl⟩ rfl rfl rfl rfl rfl (by kernel_rfl) Try.func8 (by kernel_rfl)
    (of_decide_eq_true (by kernel_rfl)) (by unfold Func.isWrapper; first | (rw [if_pos (by decide +kernel)]; kernel_rfl) | (rw [if_neg (by decide +kernel)]; exact ⟨rfl, rfl⟩))
    (fun os started H enc _ => lifted os started H enc)
theorem proved : Rows.FnStaffSaid := over
#print axioms proved
end Go.Proofs.Ytfaicjlpncidgaa.lawStaff
