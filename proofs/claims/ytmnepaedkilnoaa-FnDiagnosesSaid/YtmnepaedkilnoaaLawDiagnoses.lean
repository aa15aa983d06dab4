/- The law FnDiagnoses: for every input its call returns true and changes nothing that was there. The likeliest fault is one that is there, counts and matches agree, events within wider times are never fewer. No condition. -/
import Derived.Test.YtmnepaedkilnoaaTools
import Derived.Test.YtmnepaedkilnoaaDrawPat
import Derived.Deep.DeepCutAuto
import Derived.Test.YtmnepaedkilnoaaFaultL2
import Derived.Test.YtmnepaedkilnoaaWaysI
import Derived.Test.YtmnepaedkilnoaaWaysS
import Derived.Test.YtmnepaedkilnoaaStPattern2
import Derived.Test.YtmnepaedkilnoaaOpen
namespace Go.Proofs.Ytmnepaedkilnoaa.lawDiagnoses
open Go Go.RowKit
set_option linter.unusedVariables false
open Pattern (pats)
set_option maxRecDepth 100000 in
set_option maxHeartbeats 8000000 in
theorem walk (Lc : List Int) (A : Option Addr) (cap : Nat) (w : World) (hc : CodeIs w A Lc) :
    Calls Try.prog 13 #[.slice A Lc.length cap] w fun e w' => e = .returned (.bool true) ∧ Below w.heap.size w w' := by
  have hl := hc.1
  by_cases hbig : (65536 : Int) < (Lc.length : Int)
  · have hd : decide ((65536 : Int) < (Lc.length : Int)) = true := by simpa using hbig
    go_enter Try.func13, Try.ntmps13
    go_wp2_with fail
    refine (vBig_any _ A cap w hl).mono ?_
    rintro e w1 ⟨rfl, rfl⟩
    rw [hd]; clear hd hbig
    go_wp2_with fail
    go_ret
    exact ⟨rfl, Below.refl _ _⟩
  have hd : decide ((65536 : Int) < (Lc.length : Int)) = false := by simpa using hbig
  go_enter Try.func13, Try.ntmps13
  go_wp2_with fail
  refine (vBig_any _ A cap w hl).mono ?_
  rintro e wj ⟨rfl, rfl⟩
  rw [hd]; clear hd hbig
  have BJ : Below w.heap.size w w := Below.refl _ _
  obtain ⟨wj, hwj⟩ : ∃ wj, wj = w := ⟨_, rfl⟩
  have hcj : CodeIs wj A Lc := hwj ▸ hc
  have BJ : Below w.heap.size w wj := hwj ▸ BJ
  go_wp2_with fail
  rw [← hwj]; clear hwj
  go_wp2_with fail
  refine (DrawLikeliestFault_any A Lc cap _ hcj).mono ?_
  rintro e wj ⟨AR, AL, nR, cR, nL, cL, R, L, rfl, rfl, zR, RR, rfl, zL, RL, kOk, DL, b1⟩
  have BJ := below_step BJ b1 (Nat.le_refl _); have hcj := hcj.later b1; clear b1
  have hlk := like_there R (Pattern.pats L)
  have hfl := faultsL_len R (Pattern.pats L)
  have htt : faultsL R (Pattern.pats L) ≠ [] → (recB R && patsB (Pattern.pats L)) = true := fun hk3 => by unfold faultsL at hk3; by_cases h : (recB R && patsB (Pattern.pats L)) = true; exact h; rw [if_neg h] at hk3; exact absurd rfl hk3
  obtain ⟨F, hF⟩ : ∃ F, F = faultsL R (Pattern.pats L) := ⟨_, rfl⟩
  obtain ⟨f, hf⟩ : ∃ f, f = likeV R (Pattern.pats L) := ⟨_, rfl⟩
  obtain ⟨tb, htb⟩ : ∃ tb, tb = (recB R && patsB (Pattern.pats L)) := ⟨_, rfl⟩
  obtain ⟨ob, hob⟩ : ∃ ob, ob = decide (0 < f) := ⟨_, rfl⟩
  rw [← hF, ← hf] at hlk; rw [← hF] at hfl htt; rw [← htb] at htt
  have HFE := hide hF; have HFV := hide hf; have HTB := hide htb; have HOB := hide hob; have HLK := hide hlk; have HTT := hide htt; clear hF hf htb hob hlk htt
  go_wp2_with fail
  refine (LikeliestFault_any rfl _ _ _ _ _ _ RR (fun _ _ => trivial) (by unfold maxLen; omega) RL kOk (by unfold maxLen; omega) DL).mono ?_
  rintro e wj ⟨rfl, b1⟩
  have BJ := below_step BJ b1 (Nat.le_refl _); have hcj := hcj.later b1; replace RR := Rd.later RR b1; replace RL := Rd.later RL b1; replace DL := DL.later b1
  clear b1
  rw [← HFV.out, ← HOB.out]
  go_wp2_with fail
  refine (LikeliestFault_spec rfl _ _ _ _ _ _ RR (fun _ _ => trivial) (by unfold maxLen; omega) RL kOk (by unfold maxLen; omega) DL).mono ?_
  rintro e wj ⟨rfl, b1⟩
  have BJ := below_step BJ b1 (Nat.le_refl _); have hcj := hcj.later b1; replace RR := Rd.later RR b1; replace RL := Rd.later RL b1; replace DL := DL.later b1
  clear b1
  rw [← HFV.out, ← HOB.out]
  go_wp2_with fail
  refine (FaultsIn_any rfl _ _ _ _ _ _ RR (fun _ _ => trivial) (by unfold maxLen; omega) RL kOk (by unfold maxLen; omega) DL).mono ?_
  rintro e wj ⟨Af, cf, rfl, hof, b1⟩
  have BJ := below_step BJ b1 (Nat.le_refl _); have hcj := hcj.later b1; replace RR := Rd.later RR b1; replace RL := Rd.later RL b1; replace DL := DL.later b1
  have Rf := Own.rd_of encI_len hof; clear hof b1
  rw [← HFE.out, ← HTB.out]
  rw [← HFE.out] at Rf
  go_wp2_with fail
  refine (FaultsIn_spec rfl _ _ _ _ _ _ RR (fun _ _ => trivial) (by unfold maxLen; omega) RL kOk (by unfold maxLen; omega) DL).mono ?_
  rintro e wj ⟨Ag, cg, rfl, hog, b1⟩
  have BJ := below_step BJ b1 (Nat.le_refl _); have hcj := hcj.later b1; replace RR := Rd.later RR b1; replace RL := Rd.later RL b1; replace DL := DL.later b1
  replace Rf := Rd.later Rf b1
  have Rg := Own.rd_of encI_len hog; clear hog b1
  rw [← HFE.out, ← HTB.out]
  rw [← HFE.out] at Rg
  go_upto_region 10 with fail
  go_cut [98] (fun s wx => s = .bool false ∧ Below w.heap.size w wx)
  case first =>
    have hob := HOB.out
    rcases HLK.out with ⟨hk1, hk2⟩ | ⟨hk1, hk2, hk3⟩
    · have hob2 : ob = false := by rw [hob, hk1]; rfl
      clear hob
      subst hob2 hk2 hk1
      cases tb
      · go_wp2_with (go_at_call 46; refine (vInts_same [] 0 rfl _ _ _ _ _ (by omega) Rf Rg).mono ?_; rintro e wj ⟨rfl, b1⟩)
        go_meet; exact ⟨rfl, below_step BJ b1 (Nat.le_refl _)⟩
      · go_wp2_with (go_at_call 46; refine (vInts_same [] 0 rfl _ _ _ _ _ (by omega) Rf Rg).mono ?_; rintro e wj ⟨rfl, b1⟩)
        go_meet; exact ⟨rfl, below_step BJ b1 (Nat.le_refl _)⟩
    · have hob2 : ob = true := by rw [hob]; simpa using hk1
      have htb2 := HTT.out hk3
      have HM := hide (hasB_yes hk2); have hfp := List.length_pos_iff.2 hk3
      have hfi : (0 : Int) < (F.length : Int) := by omega
      clear hob hk1 hk2 hk3
      subst hob2 htb2
      go_wp2_with (first | (go_at_call 46; refine (vInts_same F F.length rfl _ _ _ _ _ (by omega) Rf Rg).mono ?_; rintro e wj ⟨rfl, b1⟩) | (go_at_call 47; refine (vHas_any F F.length rfl f _ _ _ (by omega) (Rd.later Rf b1)).mono ?_; rintro e w' ⟨rfl, rfl⟩; rw [HM.out]))
      go_meet; exact ⟨rfl, below_step BJ b1 (Nat.le_refl _)⟩
  obtain ⟨rfl, BJ2⟩ := hcut
  clear BJ hcj RR RL DL Rf Rg
  have BJ := BJ2; clear BJ2
  have hcj := hc.later BJ
  go_wp2_with fail
  go_wp2_with fail
  refine (DrawCountMatches_any A Lc cap _ hcj).mono ?_
  rintro e wj ⟨AR, AL, nR, cR, nL, cL, R, L, x, rfl, rfl, ⟨zR, zC⟩, RR, rfl, zL, RL, kOk, DL, b1⟩
  have BJ := below_step BJ b1 (Nat.le_refl _); have hcj := hcj.later b1; clear b1
  have hcm := count_match (R := R) (P := Pattern.pats L) (fault := x)
  have hml := matchL_len R (Pattern.pats L) x
  obtain ⟨n, hn⟩ : ∃ n, n = cntI R (Pattern.pats L) x := ⟨_, rfl⟩
  obtain ⟨M, hM⟩ : ∃ M, M = matchL R (Pattern.pats L) x := ⟨_, rfl⟩
  obtain ⟨cb, hcb⟩ : ∃ cb, cb = cntB R (Pattern.pats L) x := ⟨_, rfl⟩
  rw [← hn, ← hM, ← hcb] at hcm; rw [← hM] at hml; have HN := hide hn; have HML := hide hM; have HCB := hide hcb; have HCM := hide hcm; clear hn hM hcb hcm
  go_wp2_with fail
  refine (CountMatches_any rfl _ _ _ _ R x _ RR (fun _ _ => trivial) (by unfold maxLen; omega) RL kOk (by unfold maxLen; omega) DL zC).mono ?_
  rintro e wj ⟨rfl, b1⟩
  have BJ := below_step BJ b1 (Nat.le_refl _); have hcj := hcj.later b1; replace RR := Rd.later RR b1; replace RL := Rd.later RL b1; replace DL := DL.later b1
  clear b1
  rw [← HN.out, ← HCB.out]
  go_wp2_with fail
  refine (CountMatches_spec rfl _ _ _ _ R x _ RR (fun _ _ => trivial) (by unfold maxLen; omega) RL kOk (by unfold maxLen; omega) DL).mono ?_
  rintro e wj ⟨rfl, b1⟩
  have BJ := below_step BJ b1 (Nat.le_refl _); have hcj := hcj.later b1; replace RR := Rd.later RR b1; replace RL := Rd.later RL b1; replace DL := DL.later b1
  clear b1
  rw [← HN.out, ← HCB.out]
  go_upto_if 127 with fail
  go_cut [20, 21] (fun _ _ wx => Below w.heap.size w wx)
  case first =>
    cases cb
    · go_wp2_with fail
      go_meet
      exact BJ
    · have hcm := HCM.out rfl
      have hnb : ((!M.isEmpty) != decide (0 < n)) = false := by
        cases M with
        | nil => have : ¬ 0 < n := fun h => (hcm.1 h) rfl; simp [this]
        | cons m1 m2 => have : 0 < n := hcm.2 (by simp); simp [this]
      have HNB := hide hnb; clear hnb hcm
      go_wp2_with fail
      refine (FirstMatch_any rfl _ _ _ _ R x _ RR (fun _ _ => trivial) (by unfold maxLen; omega) RL kOk (by unfold maxLen; omega) DL).mono ?_
      rintro e wj ⟨Am, cm, rfl, hom, b1⟩
      have BJ := below_step BJ b1 (Nat.le_refl _); clear b1 hom
      rw [← HML.out]
      have hnb := HNB.out
      generalize (!M.isEmpty) = me at *
      by_cases hn0 : 0 < n
      · rw [decide_eq_true hn0] at hnb; have hme : me = true := (by cases me with | false => exact absurd hnb (by decide) | true => rfl); subst hme
        clear hnb; go_wp2_with fail; go_meet; exact BJ
      · rw [decide_eq_false hn0] at hnb; have hme : me = false := (by cases me with | true => exact absurd hnb (by decide) | false => rfl); subst hme
        clear hnb; go_wp2_with fail; go_meet; exact BJ
  clear RR RL DL hcj BJ
  have BJ := hcut; clear hcut
  have hcj := hc.later BJ
  go_wp2_with fail
  refine (DrawEventsWithin_any A Lc cap _ hcj).mono ?_
  rintro e wj ⟨AE, nE, cE, E, x, y, rfl, rfl, zE, RE, ⟨hx0, hx1⟩, ⟨hy0, hy1⟩, b1⟩
  have BJ := below_step BJ b1 (Nat.le_refl _); clear b1 hcj
  have hwl := withinV_len E x y; have hwl2 := withinV_len E (x - 1) (y + 1)
  have hwm := within_more E (lo := x) (hi := y)
  cases hwb : withinB E x y
  · have HWB := hide hwb
    clear hwm hwb
    obtain ⟨V, hV⟩ : ∃ V, V = withinV E x y := ⟨_, rfl⟩
    rw [← hV] at hwl; have HV := hide hV; clear hV
    go_wp2_with fail
    refine (EventsWithin_any E x y _ _ _ RE (fun _ _ => trivial) (by unfold maxLen; omega)).mono ?_
    rintro e wj ⟨Au, cu, rfl, hou, b1⟩
    have BJ := below_step BJ b1 (Nat.le_refl _); replace RE := Rd.later RE b1
    have Ru := Own.rd_of Event.enc_len hou; clear hou b1
    rw [← HV.out] at Ru ⊢; rw [HWB.out]
    go_wp2_with fail
    refine (EventsWithin_spec E x y _ _ _ RE (fun _ _ => trivial) (by unfold maxLen; omega)).mono ?_
    rintro e wj ⟨Av, cv, rfl, hov, b1⟩
    have BJ := below_step BJ b1 (Nat.le_refl _); replace RE := Rd.later RE b1; replace Ru := Rd.later Ru b1
    have Rv := Own.rd_of Event.enc_len hov; clear hov b1
    rw [← HV.out] at Rv ⊢; rw [HWB.out]
    go_wp2_with fail
    refine (vEvents_same V V.length rfl _ _ _ _ _ (by omega) Ru Rv).mono ?_
    rintro e wj ⟨rfl, b1⟩
    have BJ := below_step BJ b1 (Nat.le_refl _); replace RE := Rd.later RE b1; replace Ru := Rd.later Ru b1; clear b1 Rv
    go_wp2_with fail
    go_ret
    exact ⟨rfl, BJ⟩
  · have HWB := hide hwb
    obtain ⟨hm1, hm2, hm3⟩ := hwm hwb; have HM1 := hide hm1; have HM3 := hide hm3; clear hm1 hm3 hwm hwb
    obtain ⟨V, hV⟩ : ∃ V, V = withinV E x y := ⟨_, rfl⟩
    rw [← hV] at hwl hm2; rw [← hV] at HM3; have HV := hide hV; clear hV
    go_wp2_with fail
    refine (EventsWithin_any E x y _ _ _ RE (fun _ _ => trivial) (by unfold maxLen; omega)).mono ?_
    rintro e wj ⟨Au, cu, rfl, hou, b1⟩
    have BJ := below_step BJ b1 (Nat.le_refl _); replace RE := Rd.later RE b1
    have Ru := Own.rd_of Event.enc_len hou; clear hou b1
    rw [← HV.out] at Ru ⊢; rw [HWB.out]
    go_wp2_with fail
    refine (EventsWithin_spec E x y _ _ _ RE (fun _ _ => trivial) (by unfold maxLen; omega)).mono ?_
    rintro e wj ⟨Av, cv, rfl, hov, b1⟩
    have BJ := below_step BJ b1 (Nat.le_refl _); replace RE := Rd.later RE b1; replace Ru := Rd.later Ru b1
    have Rv := Own.rd_of Event.enc_len hov; clear hov b1
    rw [← HV.out] at Rv ⊢; rw [HWB.out]
    go_wp2_with fail
    refine (vEvents_same V V.length rfl _ _ _ _ _ (by omega) Ru Rv).mono ?_
    rintro e wj ⟨rfl, b1⟩
    have BJ := below_step BJ b1 (Nat.le_refl _); replace RE := Rd.later RE b1; replace Ru := Rd.later Ru b1; clear b1 Rv
    go_wp2_with fail
    refine (EventsWithin_any E (x - 1) (y + 1) _ _ _ RE (fun _ _ => trivial) (by unfold maxLen; omega)).mono ?_
    rintro e wj ⟨Az, cz, rfl, hoz, b1⟩
    have BJ := below_step BJ b1 (Nat.le_refl _); replace Ru := Rd.later Ru b1; clear hoz b1 RE
    rw [HM1.out]
    generalize (withinV E (x - 1) (y + 1)).length = zl at *
    have hmi : ¬ (zl : Int) < (V.length : Int) := by omega
    go_wp2_with fail
    go_loop [31] (fun i => ∃ j : Nat, j ≤ V.length ∧ i = .int .i64 j) (fun i => V.length - (intOf i).toNat)
    case atStart => exact ⟨0, Nat.zero_le _, rfl⟩
    case round =>
      obtain ⟨j, hj, rfl⟩ := hrel
      by_cases hlt : j < V.length
      · obtain ⟨bV, oV, rfl, _, hcV⟩ := Event.rd_at Ru (by intro h; subst h; simp at hlt)
        have hgj := List.getElem?_eq_getElem hlt
        obtain ⟨yt, _⟩ := hcV j _ hgj
        obtain ⟨t0, t1⟩ := HM3.out _ (List.getElem_mem hlt)
        generalize V[j] = ev at *
        have hjl : (j : Int) < (V.length : Int) := by omega
        have hn1 : ¬ ev.time < x := by omega
        have hn2 : ¬ y < ev.time := by omega
        clear hcV hgj
        go_wp2_with fail
        go_round
        case rel => exact ⟨j + 1, by omega, by go_num⟩
        case measure => simp [intOf] <;> omega
      · obtain rfl : j = V.length := by omega
        go_wp2_with fail
        go_ret
        exact ⟨rfl, BJ⟩
open Go.ChangeShapes Go.WideShapes Go.ChangeAt Go.RowKit
theorem elU8 {H : Type} {enc : TypeId × Value → H} {w : World} {base : Nat} {spare : Nat → Bool} {held : Bool} (n : Nat) (cs : List Value) (y : DataW H × List MemPlace) (h : DataW.trod enc Try.prog w base spare held n 5 cs = some y) : ∃ c : Int, cs = encU8 c ∧ 0 ≤ c ∧ c < 256 := by
  obtain ⟨k, hk, _, hw⟩ := DataW.trod_int Try.underlying5 h
  have hw2 : 0 ≤ k ∧ k ≤ 255 := by simpa [Lit.wf, IntKind.min, IntKind.max, IntKind.bits, IntKind.signed] using hw
  exact ⟨k, hk, by omega, by omega⟩
set_option maxRecDepth 100000 in
theorem lifted (os : Os) (started : os.Started) (H : Type) (enc : TypeId × Value → H) :
    ReturnsInHanded {} Try.checked os 13 .any (Rows.fnDiagnosesSpec.pre6 enc Try.prog Try.f13 Rows.fnDiagnosesRow.domain false) (Rows.fnDiagnosesSpec.post enc Try.prog Try.f13 false true false false) := by
  refine returnsInHanded_of_change (C := Try.checked) own started (by kernel_rfl) Try.func13
    (ChangeSpec.witness6 (enc := enc) (C := Try.checked) false ⟨#[], #[.slice none 0 0], []⟩ 8 (by kernel_rfl) (by kernel_rfl) (by kernel_rfl) (by kernel_rfl)) ?_
  intro W base args ds gs before hval0 hW hcnd _
  have hval : ∀ (j : Nat) t v, Try.f13.params[j]? = some t → args[j]? = some v → Value.okWide Try.prog W .any base t v := hval0
  have hW' := hW
  obtain ⟨p, q, hA0, hV, rfl, hfz, hnd⟩ := hW
  have hA : DataW.TrodAll enc Try.prog W 0 (fun _ => true) true Try.f13.params.toList args.toList ds p := hA0
  rw [Try.params13] at hA hval
  obtain ⟨v0, vs0, d0, ds0, p0, q0, hargs, rfl, rfl, h0, e0⟩ := trodAll_cons hA
  obtain ⟨rfl, rfl, rfl⟩ := trodAll_nil e0
  obtain rfl : args = #[v0] := by cases args; simp_all
  obtain ⟨rfl, rfl⟩ := trodVars_none hV
  have k0 := h0
  have lt0 : ∀ x ∈ p0, x.block < W.heap.size := by obtain ⟨m, hm⟩ := k0; exact DataW.trod_lt m _ _ _ hm
  obtain ⟨A0, len0, c0, rfl⟩ := okWide_slice Try.underlying52 (hval 0 52 v0 rfl rfl)
  obtain ⟨fu0, hf0⟩ := h0
  obtain ⟨L0, rfl, r0, g0, l0⟩ := open_list (encα := encU8) (m := 1) (Good := fun c => 0 ≤ c ∧ c < 256) Try.underlying52 (by kernel_rfl) (by decide) encU8_len elU8 hf0
  clear hA0 hval0
  refine (walk L0 A0 c0 W ⟨l0, g0, r0⟩).mono fun e W' ⟨he, bel⟩ => ?_
  subst he
  exact ⟨_, rfl, _, _, _, [], _, [], hW', trodAll_mk1 (shut_bool Try.underlying4 _), (trodAll_cons_mk (Below.trod laidOut (by kernel_rfl) (of_decide_eq_true (by kernel_rfl)) k0 bel lt0) trodAll_mk0), rfl, bel.frame _, fun h => by cases h⟩
theorem over : Rows.fnDiagnosesRow.holds Try.pinned (OpenSpec.ofChange Rows.fnDiagnosesSpec) :=
  OpenClaim.holds_of_wide 13 Try.f13 rfl rfl rfl rfl rfl rfl rfl ⟨rfl, rfl, rfl, rfl, rfl⟩ rfl rfl rfl rfl rfl (by kernel_rfl) Try.func13 (by kernel_rfl)
    (of_decide_eq_true (by kernel_rfl)) (by unfold Func.isWrapper; first | (rw [if_pos (by decide +kernel)]; kernel_rfl) | (rw [if_neg (by decide +kernel)]; exact ⟨rfl, rfl⟩))
    (fun os started H enc _ => lifted os started H enc)
theorem proved : Rows.FnDiagnosesSaid := over
#print axioms proved
end Go.Proofs.Ytmnepaedkilnoaa.lawDiagnoses
