/- The law FnFaults: for every input its call returns true and changes nothing that was there. A fault that is detected has a match that rises and ends at that time or later, and unexplained events are in no match. No condition. -/
import Derived.Test.YtmnepaedkilnoaaTools
import Derived.Test.YtmnepaedkilnoaaDrawPat
import Derived.Deep.DeepCutAuto
import Derived.Test.YtmnepaedkilnoaaFaultL2
import Derived.Test.YtmnepaedkilnoaaWaysI
import Derived.Test.YtmnepaedkilnoaaWaysS
import Derived.Test.YtmnepaedkilnoaaStPattern2
import Derived.Test.YtmnepaedkilnoaaRec
import Derived.Test.YtmnepaedkilnoaaPats
import Derived.Test.YtmnepaedkilnoaaOpen
namespace Go.Proofs.Ytmnepaedkilnoaa.lawFaults
open Go Go.RowKit
set_option linter.unusedVariables false
open Pattern (pats)
set_option maxRecDepth 100000 in
set_option maxHeartbeats 8000000 in
theorem walk (Lc : List Int) (A : Option Addr) (cap : Nat) (w : World) (hc : CodeIs w A Lc) :
    Calls Try.prog 12 #[.slice A Lc.length cap] w fun e w' => e = .returned (.bool true) ∧ Below w.heap.size w w' := by
  have hl := hc.1
  by_cases hbig : (65536 : Int) < (Lc.length : Int)
  · have hd : decide ((65536 : Int) < (Lc.length : Int)) = true := by simpa using hbig
    go_enter Try.func12, Try.ntmps12
    go_wp2_with fail
    refine (vBig_any _ A cap w hl).mono ?_
    rintro e w1 ⟨rfl, rfl⟩
    rw [hd]; clear hd hbig
    go_wp2_with fail
    go_ret
    exact ⟨rfl, Below.refl _ _⟩
  have hd : decide ((65536 : Int) < (Lc.length : Int)) = false := by simpa using hbig
  go_enter Try.func12, Try.ntmps12
  go_wp2_with fail
  refine (vBig_any _ A cap w hl).mono ?_
  rintro e wj ⟨rfl, rfl⟩
  rw [hd]; clear hd hbig
  have BJ : Below w.heap.size w w := Below.refl _ _
  obtain ⟨wj, hwj⟩ : ∃ wj, wj = w := ⟨_, rfl⟩
  have hcj : CodeIs wj A Lc := hwj ▸ hc
  have BJ : Below w.heap.size w wj := hwj ▸ BJ
  go_wp2_with fail
  rw [← hwj]; clear hwj
  go_wp2_with fail
  refine (DrawFirstMatch_any A Lc cap _ hcj).mono ?_
  rintro e wj ⟨AR, AL, nR, cR, nL, cL, R, L, x, rfl, rfl, ⟨zR, zC⟩, RR, rfl, zL, RL, kOk, DL, b1⟩
  have BJ := below_step BJ b1 (Nat.le_refl _); have hcj := hcj.later b1; clear b1
  have hmf := match_facts (R := R) (P := Pattern.pats L) (fault := x)
  have hdo := det_ok R (Pattern.pats L) x
  have hcm := count_match (R := R) (P := Pattern.pats L) (fault := x)
  have hml := matchL_len R (Pattern.pats L) x
  have hfl := faultsL_len R (Pattern.pats L)
  obtain ⟨M, hM⟩ : ∃ M, M = matchL R (Pattern.pats L) x := ⟨_, rfl⟩
  obtain ⟨dv, hdv⟩ : ∃ dv, dv = detV R (Pattern.pats L) x := ⟨_, rfl⟩
  obtain ⟨F, hF⟩ : ∃ F, F = faultsL R (Pattern.pats L) := ⟨_, rfl⟩
  obtain ⟨n, hn⟩ : ∃ n, n = cntI R (Pattern.pats L) x := ⟨_, rfl⟩
  obtain ⟨cb, hcb⟩ : ∃ cb, cb = cntB R (Pattern.pats L) x := ⟨_, rfl⟩
  rw [← hM, ← hdv, ← hF] at hmf; rw [← hM, ← hdv] at hdo; rw [← hM, ← hn, ← hcb] at hcm; rw [← hM] at hml; rw [← hF] at hfl
  obtain ⟨ob, hob⟩ : ∃ ob, ob = decide (0 ≤ dv) := ⟨_, rfl⟩
  have hoe : (!M.isEmpty) = ob := by
    rw [hob]
    by_cases h : 0 ≤ dv
    · rw [decide_eq_true h]; have h2 := hdo.1 h
      cases hMM : M with
      | nil => exact absurd hMM h2
      | cons a b => rfl
    · rw [decide_eq_false h]
      cases hMM : M with
      | nil => rfl
      | cons a b => exact absurd (hdo.2 (by rw [hMM]; simp)) h
  obtain ⟨ml, hmle⟩ : ∃ ml, ml = M.length := ⟨_, rfl⟩
  obtain ⟨mx, hmx⟩ : ∃ mx, mx = max dv 0 := ⟨_, rfl⟩
  rw [← hmle] at hml; have HLE := hide hmle; have HMX := hide hmx; clear hmle hmx
  have HMF := hide hmf; have HDO := hide hdo; have HCM := hide hcm; have HOB := hide hob; have HOE := hide hoe; have HM := hide hM; have HDV := hide hdv; have HF := hide hF; have HN := hide hn; have HCB := hide hcb
  clear hmf hdo hcm hob hoe hM hdv hF hn hcb
  go_wp2_with fail
  refine (FirstMatch_any rfl _ _ _ _ R x _ RR (fun _ _ => trivial) (by unfold maxLen; omega) RL kOk (by unfold maxLen; omega) DL).mono ?_
  rintro e wj ⟨Am, cm, rfl, hom, b1⟩
  have BJ := below_step BJ b1 (Nat.le_refl _); have hcj := hcj.later b1; replace RR := Rd.later RR b1; replace RL := Rd.later RL b1; replace DL := DL.later b1
  have Rm := Own.rd_of encI_len hom; clear hom b1
  rw [← HM.out, HOE.out, ← HLE.out]
  rw [← HM.out] at Rm
  go_wp2_with fail
  refine (FirstMatch_spec rfl _ _ _ _ R x _ RR (fun _ _ => trivial) (by unfold maxLen; omega) RL kOk (by unfold maxLen; omega) DL).mono ?_
  rintro e wj ⟨Ak, ck, rfl, hok, b1⟩
  have BJ := below_step BJ b1 (Nat.le_refl _); have hcj := hcj.later b1; replace RR := Rd.later RR b1; replace RL := Rd.later RL b1; replace DL := DL.later b1
  replace Rm := Rd.later Rm b1
  have Rk := Own.rd_of encI_len hok; clear hok b1
  rw [← HM.out, HOE.out, ← HLE.out]
  rw [← HM.out] at Rk
  go_wp2_with fail
  refine (vInts_same M ml HLE.out.symm _ _ _ _ _ (by omega) Rm Rk).mono ?_
  rintro e wj ⟨rfl, b1⟩
  have BJ := below_step BJ b1 (Nat.le_refl _); have hcj := hcj.later b1; replace RR := Rd.later RR b1; replace RL := Rd.later RL b1; replace DL := DL.later b1; replace Rm := Rd.later Rm b1; clear Rk b1
  go_wp2_with fail
  refine (IsRecordOf_any _ _ _ _ RR (fun _ _ => trivial) (by unfold maxLen; omega)).mono ?_
  rintro e wj ⟨rfl, b1⟩
  have BJ := below_step BJ b1 (Nat.le_refl _); have hcj := hcj.later b1; replace RR := Rd.later RR b1; replace RL := Rd.later RL b1; replace DL := DL.later b1
  replace Rm := Rd.later Rm b1
  clear b1
  go_wp2_with fail
  refine (IsRecordOf_spec _ _ _ _ RR (fun _ _ => trivial) (by unfold maxLen; omega)).mono ?_
  rintro e wj ⟨rfl, b1⟩
  have BJ := below_step BJ b1 (Nat.le_refl _); have hcj := hcj.later b1; replace RR := Rd.later RR b1; replace RL := Rd.later RL b1; replace DL := DL.later b1
  replace Rm := Rd.later Rm b1
  clear b1
  go_wp2_with fail
  refine (ArePatterns_is rfl rfl _ _ _ RL kOk (by unfold maxLen; omega) DL).mono ?_
  rintro e wj ⟨rfl, b1⟩
  have BJ := below_step BJ b1 (Nat.le_refl _); have hcj := hcj.later b1; replace RR := Rd.later RR b1; replace RL := Rd.later RL b1; replace DL := DL.later b1
  replace Rm := Rd.later Rm b1
  clear b1
  go_wp2_with fail
  refine (ArePatterns_spec rfl _ _ _ RL kOk (by unfold maxLen; omega) DL).mono ?_
  rintro e wj ⟨rfl, b1⟩
  have BJ := below_step BJ b1 (Nat.le_refl _); have hcj := hcj.later b1; replace RR := Rd.later RR b1; replace RL := Rd.later RL b1; replace DL := DL.later b1
  replace Rm := Rd.later Rm b1
  clear b1
  go_wp2_with fail
  refine (DetectedAt_any rfl _ _ _ _ R x _ RR (fun _ _ => trivial) (by unfold maxLen; omega) RL kOk (by unfold maxLen; omega) DL).mono ?_
  rintro e wj ⟨rfl, b1⟩
  have BJ := below_step BJ b1 (Nat.le_refl _); have hcj := hcj.later b1; replace RR := Rd.later RR b1; replace RL := Rd.later RL b1; replace DL := DL.later b1
  replace Rm := Rd.later Rm b1
  clear b1
  rw [← HDV.out, ← HOB.out, ← HMX.out]
  go_wp2_with fail
  refine (DetectedAt_spec rfl _ _ _ _ R x _ RR (fun _ _ => trivial) (by unfold maxLen; omega) RL kOk (by unfold maxLen; omega) DL).mono ?_
  rintro e wj ⟨rfl, b1⟩
  have BJ := below_step BJ b1 (Nat.le_refl _); have hcj := hcj.later b1; replace RR := Rd.later RR b1; replace RL := Rd.later RL b1; replace DL := DL.later b1
  replace Rm := Rd.later Rm b1
  clear b1
  rw [← HDV.out, ← HOB.out, ← HMX.out]
  go_upto_if 108 with fail
  go_cut [14, 15, 16, 17, 18] (fun _ _ _ _ _ wx => Below w.heap.size w wx)
  case first =>
    cases ob
    · go_wp2_with fail
      go_meet
      exact BJ
    · have hd0 : 0 ≤ dv := of_decide_eq_true HOB.out.symm
      have hMne := HDO.out.1 hd0
      obtain ⟨g1, g2, g3, ⟨j, ev, g4, g5, g6⟩, _, g7⟩ := HMF.out hMne
      have HG := hide (show (recB R && patsB (Pattern.pats L)) = true by rw [g1, g2]; rfl)
      have HHAS := hide (hasB_yes g7); have HRISE := hide g3
      obtain ⟨q, rfl⟩ : ∃ q, ml = q + 1 := ⟨ml - 1, by have := List.length_pos_iff.2 hMne; have := HLE.out; omega⟩
      have hq := HLE.out.symm
      have hq5 : q ≤ 5 := by omega
      have hjl := (List.getElem?_eq_some_iff.1 g5).1
      have hjli : (j : Int) < (R.length : Int) := by omega
      rw [hq, Nat.add_sub_cancel] at g4
      have G4 := hide g4; have G5 := hide g5; have HQ := hide hq; have hge : ¬ ev.time < mx := by have := HMX.out; omega
      clear g1 g2 g3 g4 g5 g7 hMne hq
      go_wp2_with fail
      refine (FaultsIn_any rfl _ _ _ _ _ _ RR (fun _ _ => trivial) (by unfold maxLen; omega) RL kOk (by unfold maxLen; omega) DL).mono ?_
      rintro e wj ⟨Af, cf, rfl, hof, b1⟩
      have BJ := below_step BJ b1 (Nat.le_refl _); have hcj := hcj.later b1; replace RR := Rd.later RR b1; replace RL := Rd.later RL b1; replace DL := DL.later b1
      replace Rm := Rd.later Rm b1
      have Rf := Own.rd_of encI_len hof; clear hof b1
      rw [← HF.out, HG.out]
      rw [← HF.out] at Rf
      obtain ⟨bm, om, rfl, hbm, hcm'⟩ := rd_int Rm (by intro h; have := HQ.out; rw [h] at this; cases this)
      have ym := hcm' q _ G4.out; have HCELL := hide hcm'; clear hcm'
      obtain ⟨bR, oR, rfl, hbR, hcR⟩ := Event.rd_at RR (by intro h; subst h; simp at hjl)
      have yr := (hcR j _ G5.out).1; clear hcR
      have hq1 : (q : Int) < (q : Int) + 1 := by omega
      have HBM := BJ
      go_wp2_with (go_at_call 47; refine (vHas_any F F.length rfl x _ _ _ (by omega) Rf).mono ?_; rintro e w' ⟨rfl, rfl⟩; rw [HHAS.out])
      obtain ⟨wb, hwb⟩ : ∃ wb, wb = wj := ⟨_, rfl⟩
      go_loopw [16] (fun i wr => ∃ k : Nat, 1 ≤ k ∧ k ≤ q + 1 ∧ i = .int .i64 k ∧ Below wj.heap.size wj wr) (fun i _ => q + 1 - (intOf i).toNat)
      case atStart => exact ⟨1, Nat.le_refl _, by omega, rfl, Below.refl _ _⟩
      case round =>
        obtain ⟨k, hk1, hk, rfl, hbel⟩ := hrel
        have BK := below_step BJ hbel (Nat.le_refl _)
        have RRk := Rd.later RR hbel; have RLk := Rd.later RL hbel; have DLk := DL.later hbel
        by_cases hlt : k < q + 1
        · obtain ⟨k', rfl⟩ : ∃ k', k = k' + 1 := ⟨k - 1, by omega⟩
          obtain ⟨ma, ha⟩ : ∃ ma, M[k']? = some ma := ⟨_, List.getElem?_eq_getElem (by rw [HQ.out]; omega)⟩
          obtain ⟨mb, hb⟩ : ∃ mb, M[k' + 1]? = some mb := ⟨_, List.getElem?_eq_getElem (by rw [HQ.out]; omega)⟩
          have hlt2 := HRISE.out k' _ _ ha hb
          have ya := below_cell hbel (HCELL.out k' _ ha); have yb := below_cell hbel (HCELL.out (k' + 1) _ hb)
          clear ha hb
          have hnl : ¬ mb ≤ ma := by omega
          have hlti : ((k' + 1 : Nat) : Int) < (q : Int) + 1 := by omega
          have hlti2 : (k' : Int) + 1 < (q : Int) + 1 := by omega
          have hlti3 : (k' : Int) < (q : Int) + 1 := by omega
          have hw1 : IntKind.i64.wrap ((k' : Int) + 1 - 1) = (k' : Int) := by rw [IntKind.wrap_i64]; omega
          have hw2 : IntKind.i64.wrap (k' : Int) = (k' : Int) := by rw [IntKind.wrap_i64]; omega
          have hw3 : IntKind.i64.wrap (((k' + 1 : Nat) : Int) - 1) = (k' : Int) := by rw [IntKind.wrap_i64]; omega
          go_wp2_with fail
          go_quiet (fail)
          clear hw1 hw2 hw3
          go_wp2_with fail
          go_roundw
          case rel => exact ⟨k' + 2, by omega, by omega, by go_num, below_drewN hbel _⟩
          case measure => simp [intOf] <;> omega
        · have hkq : k = q + 1 := by omega
          have hnk : ¬ (k : Int) < (q : Int) + 1 := by omega
          have hcm := HCM.out
          have hne2 : M ≠ [] := by intro h; have := HQ.out; rw [h] at this; cases this
          go_wp2_with fail
          refine (CountMatches_any rfl _ _ _ _ R x _ RRk (fun _ _ => trivial) (by unfold maxLen; omega) RLk kOk (by unfold maxLen; omega) DLk zC).mono ?_
          rintro e wz ⟨rfl, b1⟩
          have BZ := below_step BK b1 (Nat.le_refl _)
          rw [← HN.out, ← HCB.out]
          cases cb
          · clear hcm; go_wp2_with fail; go_meet; exact BZ
          · have hnp : 0 < n := (hcm rfl).2 hne2
            have hnn : ¬ n < 1 := by omega
            clear hcm hne2; go_wp2_with fail; go_meet; exact BZ
  clear RR RL DL Rm hcj BJ HMF HDO HCM HOB HOE HM HDV HF HN HCB HLE HMX
  have BJ := hcut; clear hcut
  have hcj := hc.later BJ
  go_wp2_with fail
  go_wp2_with fail
  refine (DrawUnexplainedEvents_any A Lc cap _ hcj).mono ?_
  rintro e wj ⟨AR, AL, nR, cR, nL, cL, R, L, rfl, rfl, zR, RR, rfl, zL, RL, kOk, DL, b1⟩
  have BJ := below_step BJ b1 (Nat.le_refl _); have hcj := hcj.later b1; clear b1
  have hul := unexV_len R (Pattern.pats L)
  have hux := fun (fault y : Int) (h : y ∈ matchL R (Pattern.pats L) fault) => unex_not h
  obtain ⟨U, hU⟩ : ∃ U, U = unexV R (Pattern.pats L) := ⟨_, rfl⟩
  obtain ⟨tb, htb⟩ : ∃ tb, tb = (recB R && patsB (Pattern.pats L)) := ⟨_, rfl⟩
  rw [← hU] at hul hux; have HU := hide hU; have HTB := hide htb; have HUX := hide hux; clear hU htb hux
  go_wp2_with fail
  refine (UnexplainedEvents_any rfl _ _ _ _ _ _ RR (fun _ _ => trivial) (by unfold maxLen; omega) RL kOk (by unfold maxLen; omega) DL).mono ?_
  rintro e wj ⟨Au, cu, rfl, hou, b1⟩
  have BJ := below_step BJ b1 (Nat.le_refl _); have hcj := hcj.later b1; replace RR := Rd.later RR b1; replace RL := Rd.later RL b1; replace DL := DL.later b1
  have Ru := Own.rd_of encI_len hou; clear hou b1
  rw [← HU.out, ← HTB.out]
  rw [← HU.out] at Ru
  go_wp2_with fail
  refine (UnexplainedEvents_spec rfl _ _ _ _ _ _ RR (fun _ _ => trivial) (by unfold maxLen; omega) RL kOk (by unfold maxLen; omega) DL).mono ?_
  rintro e wj ⟨Av, cv, rfl, hov, b1⟩
  have BJ := below_step BJ b1 (Nat.le_refl _); have hcj := hcj.later b1; replace RR := Rd.later RR b1; replace RL := Rd.later RL b1; replace DL := DL.later b1
  replace Ru := Rd.later Ru b1
  have Rv := Own.rd_of encI_len hov; clear hov b1
  rw [← HU.out, ← HTB.out]
  rw [← HU.out] at Rv
  go_wp2_with fail
  refine (vInts_same U U.length rfl _ _ _ _ _ (by omega) Ru Rv).mono ?_
  rintro e wj ⟨rfl, b1⟩
  have BJ := below_step BJ b1 (Nat.le_refl _); have hcj := hcj.later b1; replace RR := Rd.later RR b1; replace RL := Rd.later RL b1; replace DL := DL.later b1; replace Ru := Rd.later Ru b1; clear Rv b1
  go_wp2_with fail
  go_loopw [25] (fun i wr => ∃ k : Nat, k ≤ L.length ∧ i = .int .i64 k ∧ Below wj.heap.size wj wr) (fun i _ => L.length - (intOf i).toNat)
  case atStart => exact ⟨0, Nat.zero_le _, rfl, Below.refl _ _⟩
  case round =>
    obtain ⟨k, hk, rfl, hbel⟩ := hrel
    have BK := below_step BJ hbel (Nat.le_refl _)
    have hcjk := hcj.later hbel
    by_cases hlt : k < L.length
    · have hlti : (k : Int) < (L.length : Int) := by omega
      cases tb
      · go_wp2_with fail
        replace hcj := hcjk; replace BJ := BK; clear RR RL DL Ru
        go_wp2_with fail
        refine (DrawDetectedAt_any A Lc cap _ hcj).mono ?_
        rintro e wj ⟨AR, AL, nR, cR, nL, cL, R, L, x, rfl, rfl, ⟨zR, zC⟩, RR, rfl, zL, RL, kOk, DL, b1⟩
        have BJ := below_step BJ b1 (Nat.le_refl _); have hcj := hcj.later b1; clear b1
        obtain ⟨dv, hdv⟩ : ∃ dv, dv = detV R (Pattern.pats L) x := ⟨_, rfl⟩
        have HDV := hide hdv; clear hdv
        go_wp2_with fail
        refine (DetectedAt_any rfl _ _ _ _ R x _ RR (fun _ _ => trivial) (by unfold maxLen; omega) RL kOk (by unfold maxLen; omega) DL).mono ?_
        rintro e wj ⟨rfl, b1⟩
        have BJ := below_step BJ b1 (Nat.le_refl _); have hcj := hcj.later b1; replace RR := Rd.later RR b1; replace RL := Rd.later RL b1; replace DL := DL.later b1
        clear b1
        rw [← HDV.out]
        go_wp2_with fail
        refine (DetectedAt_spec rfl _ _ _ _ R x _ RR (fun _ _ => trivial) (by unfold maxLen; omega) RL kOk (by unfold maxLen; omega) DL).mono ?_
        rintro e wj ⟨rfl, b1⟩
        have BJ := below_step BJ b1 (Nat.le_refl _); have hcj := hcj.later b1; replace RR := Rd.later RR b1; replace RL := Rd.later RL b1; replace DL := DL.later b1
        clear b1
        rw [← HDV.out]
        generalize max dv 0 = mx at *; generalize decide (0 ≤ dv) = db at *
        go_wp2_with fail
        all_goals (go_ret; exact ⟨by first | rfl | (refine ret_bool ?_; simp), BJ⟩)
      · have RRk := Rd.later RR hbel; have RLk := Rd.later RL hbel; have DLk := DL.later hbel; have Ruk := Rd.later Ru hbel
        obtain ⟨bL, oL, hAL, hbL, hcL⟩ := Pattern.rd_at RLk (by intro h; subst h; simp at hlt)
        subst hAL
        have hgk := List.getElem?_eq_getElem hlt
        obtain ⟨yk, _, _⟩ := hcL k _ hgk
        generalize L[k] = pk at *
        clear hcL hgk
        have hml := matchL_len R (Pattern.pats L) pk.fault
        have hmx := HUX.out pk.fault
        obtain ⟨M, hM⟩ : ∃ M, M = matchL R (Pattern.pats L) pk.fault := ⟨_, rfl⟩
        rw [← hM] at hml hmx; have HM := hide hM; have HMX := hide hmx; clear hM hmx
        go_wp2_with fail
        refine (FirstMatch_any rfl _ _ _ _ R pk.fault _ RRk (fun _ _ => trivial) (by unfold maxLen; omega) RLk kOk (by unfold maxLen; omega) DLk).mono ?_
        rintro e wf ⟨Am, cm, rfl, hom, b1⟩
        have Rm := Own.rd_of encI_len hom; clear hom
        rw [← HM.out]; rw [← HM.out] at Rm
        have BF := below_step hbel b1 (Nat.le_refl _); have Ruf := Rd.later Ruk b1; clear b1
        obtain ⟨me, hme⟩ : ∃ me, me = (!M.isEmpty) := ⟨_, rfl⟩
        rw [← hme]; have HME := hide hme; clear hme
        go_wp2_with fail
        go_loop [28] (fun i => ∃ j : Nat, j ≤ M.length ∧ i = .int .i64 j) (fun i => M.length - (intOf i).toNat)
        case atStart => exact ⟨0, Nat.zero_le _, rfl⟩
        case round =>
          obtain ⟨j, hj, rfl⟩ := hrel
          by_cases hjl : j < M.length
          · obtain ⟨bM, oM, hAM, _, hcM⟩ := rd_int Rm (by intro h; subst h; simp at hjl)
            subst hAM
            have hgj := List.getElem?_eq_getElem hjl
            have yj := hcM j _ hgj
            have HNO := hide (hasB_no (HMX.out _ (List.getElem_mem hjl)))
            have hmt : me = true := by rw [HME.out]; cases hMM : M with | nil => rw [hMM] at hjl; simp at hjl | cons a b => rfl
            clear HME; subst hmt
            generalize M[j] = mj at *
            clear hcM hgj
            have hjli : (j : Int) < (M.length : Int) := by omega
            go_wp2_with (go_at_call 47; refine (vHas_any U U.length rfl mj _ _ _ (by omega) Ruf).mono ?_; rintro e w' ⟨rfl, rfl⟩; rw [HNO.out])
            go_round
            case rel => exact ⟨j + 1, by omega, by go_num⟩
            case measure => simp [intOf] <;> omega
          · have hjn : ¬ (j : Int) < (M.length : Int) := by omega
            go_wp2_with fail
            go_roundw
            case rel => exact ⟨k + 1, by omega, by go_num, BF⟩
            case measure => simp [intOf] <;> omega
    · have hlti : ¬ (k : Int) < (L.length : Int) := by omega
      go_wp2_with fail
      replace hcj := hcjk; replace BJ := BK; clear RR RL DL Ru
      go_wp2_with fail
      refine (DrawDetectedAt_any A Lc cap _ hcj).mono ?_
      rintro e wj ⟨AR, AL, nR, cR, nL, cL, R, L, x, rfl, rfl, ⟨zR, zC⟩, RR, rfl, zL, RL, kOk, DL, b1⟩
      have BJ := below_step BJ b1 (Nat.le_refl _); have hcj := hcj.later b1; clear b1
      obtain ⟨dv, hdv⟩ : ∃ dv, dv = detV R (Pattern.pats L) x := ⟨_, rfl⟩
      have HDV := hide hdv; clear hdv
      go_wp2_with fail
      refine (DetectedAt_any rfl _ _ _ _ R x _ RR (fun _ _ => trivial) (by unfold maxLen; omega) RL kOk (by unfold maxLen; omega) DL).mono ?_
      rintro e wj ⟨rfl, b1⟩
      have BJ := below_step BJ b1 (Nat.le_refl _); have hcj := hcj.later b1; replace RR := Rd.later RR b1; replace RL := Rd.later RL b1; replace DL := DL.later b1
      clear b1
      rw [← HDV.out]
      go_wp2_with fail
      refine (DetectedAt_spec rfl _ _ _ _ R x _ RR (fun _ _ => trivial) (by unfold maxLen; omega) RL kOk (by unfold maxLen; omega) DL).mono ?_
      rintro e wj ⟨rfl, b1⟩
      have BJ := below_step BJ b1 (Nat.le_refl _); have hcj := hcj.later b1; replace RR := Rd.later RR b1; replace RL := Rd.later RL b1; replace DL := DL.later b1
      clear b1
      rw [← HDV.out]
      generalize max dv 0 = mx at *; generalize decide (0 ≤ dv) = db at *
      go_wp2_with fail
      all_goals (go_ret; exact ⟨by first | rfl | (refine ret_bool ?_; simp), BJ⟩)
open Go.ChangeShapes Go.WideShapes Go.ChangeAt Go.RowKit
theorem elU8 {H : Type} {enc : TypeId × Value → H} {w : World} {base : Nat} {spare : Nat → Bool} {held : Bool} (n : Nat) (cs : List Value) (y : DataW H × List MemPlace) (h : DataW.trod enc Try.prog w base spare held n 5 cs = some y) : ∃ c : Int, cs = encU8 c ∧ 0 ≤ c ∧ c < 256 := by
  obtain ⟨k, hk, _, hw⟩ := DataW.trod_int Try.underlying5 h
  have hw2 : 0 ≤ k ∧ k ≤ 255 := by simpa [Lit.wf, IntKind.min, IntKind.max, IntKind.bits, IntKind.signed] using hw
  exact ⟨k, hk, by omega, by omega⟩
set_option maxRecDepth 100000 in
theorem lifted (os : Os) (started : os.Started) (H : Type) (enc : TypeId × Value → H) :
    ReturnsInHanded {} Try.checked os 12 .any (Rows.fnFaultsSpec.pre6 enc Try.prog Try.f12 Rows.fnFaultsRow.domain false) (Rows.fnFaultsSpec.post enc Try.prog Try.f12 false true false false) := by
  refine returnsInHanded_of_change (C := Try.checked) own started (by kernel_rfl) Try.func12
    (ChangeSpec.witness6 (enc := enc) (C := Try.checked) false ⟨#[], #[.slice none 0 0], []⟩ 8 (by kernel_rfl) (by kernel_rfl) (by kernel_rfl) (by kernel_rfl)) ?_
  intro W base args ds gs before hval0 hW hcnd _
  have hval : ∀ (j : Nat) t v, Try.f12.params[j]? = some t → args[j]? = some v → Value.okWide Try.prog W .any base t v := hval0
  have hW' := hW
  obtain ⟨p, q, hA0, hV, rfl, hfz, hnd⟩ := hW
  have hA : DataW.TrodAll enc Try.prog W 0 (fun _ => true) true Try.f12.params.toList args.toList ds p := hA0
  rw [Try.params12] at hA hval
  obtain ⟨v0, vs0, d0, ds0, p0, q0, hargs, rfl, rfl, h0, e0⟩ := trodAll_cons hA
  obtain ⟨rfl, rfl, rfl⟩ := trodAll_nil e0
  obtain rfl : args = #[v0] := by cases args; simp_all
  obtain ⟨rfl, rfl⟩ := trodVars_none hV
  have k0 := h0
  have lt0 : ∀ x ∈ p0, x.block < W.heap.size := by obtain ⟨m, hm⟩ := k0; exact DataW.trod_lt m _ _ _ hm
  obtain ⟨A0, len0, c0, rfl⟩ := okWide_slice Try.underlying52 (hval 0 52 v0 rfl rfl)
  obtain ⟨fu0, hf0⟩ := h0
  obtain ⟨L0, rfl, r0, g0, l0⟩ := open_list (encα := encU8) (m := 1) (Good := fun c => 0 ≤ c ∧ c < 256) Try.underlying52 (by kernel_rfl) (by decide) encU8_len elU8 hf0
  clear hA0 hval0
  refine (walk L0 A0 c0 W ⟨l0, g0, r0⟩).mono fun e W' ⟨he, bel⟩ => ?_
  subst he
  exact ⟨_, rfl, _, _, _, [], _, [], hW', trodAll_mk1 (shut_bool Try.underlying4 _), (trodAll_cons_mk (Below.trod laidOut (by kernel_rfl) (of_decide_eq_true (by kernel_rfl)) k0 bel lt0) trodAll_mk0), rfl, bel.frame _, fun h => by cases h⟩
theorem over : Rows.fnFaultsRow.holds Try.pinned (OpenSpec.ofChange Rows.fnFaultsSpec) :=
  OpenClaim.holds_of_wide 12 Try.f12 rfl rfl rfl rfl rfl rfl rfl ⟨rfl, rfl, rfl, rfl, rfl⟩ rfl rfl rfl rfl rfl (by kernel_rfl) Try.func12 (by kernel_rfl)
    (of_decide_eq_true (by kernel_rfl)) (by unfold Func.isWrapper; first | (rw [if_pos (by decide +kernel)]; kernel_rfl) | (rw [if_neg (by decide +kernel)]; exact ⟨rfl, rfl⟩))
    (fun os started H enc _ => lifted os started H enc)
theorem proved : Rows.FnFaultsSaid := over
#print axioms proved
end Go.Proofs.Ytmnepaedkilnoaa.lawFaults
