/- The law FnShifts: for every input its call returns true and changes nothing that was there. Who can have a shift gets it, hours that are worked and left are all hours, and a part that is filled is covered. No condition. -/
import Derived.Test.YtfaicjlpncidgaaShiftsL
import Derived.Test.YtfaicjlpncidgaaDrawX22
import Derived.Deep.CutBlock
import Derived.Deep.DeepCutAuto
import Derived.Test.YtfaicjlpncidgaaOpen
namespace Go.Proofs.Ytfaicjlpncidgaa.lawShifts
open Go Go.RowKit
set_option linter.unusedVariables false
set_option maxRecDepth 100000 in
set_option maxHeartbeats 8000000 in
theorem walk (Lc : List Int) (A : Option Addr) (cap : Nat) (w : World) (hc : CodeIs w A Lc) :
    Calls Try.prog 13 #[.slice A Lc.length cap] w fun e w' => e = .returned (.bool true) ∧ Below w.heap.size w w' := by
  have hl := hc.1
  by_cases hbig : (65536 : Int) < (Lc.length : Int)
  · have hd : decide ((65536 : Int) < (Lc.length : Int)) = true := by simpa using hbig
    go_enter Try.func13, Try.ntmps13
    go_wp2_with fail
    refine (rBig_any _ A cap w hl).mono ?_
    rintro e w1 ⟨rfl, rfl⟩
    rw [hd]; clear hd hbig
    go_wp2_with fail
    go_ret
    exact ⟨rfl, Below.refl _ _⟩
  have hd : decide ((65536 : Int) < (Lc.length : Int)) = false := by simpa using hbig
  go_enter Try.func13, Try.ntmps13
  go_wp2_with fail
  refine (rBig_any _ A cap w hl).mono ?_
  rintro e wj ⟨rfl, rfl⟩
  rw [hd]; clear hd hbig
  have BJ : Below w.heap.size w w := Below.refl _ _
  obtain ⟨wj, hwj⟩ : ∃ wj, wj = w := ⟨_, rfl⟩
  have hcj : CodeIs wj A Lc := hwj ▸ hc
  have BJ : Below w.heap.size w wj := hwj ▸ BJ
  go_wp2_with fail
  rw [← hwj]; clear hwj
  refine (DrawWhoCan_any A Lc cap _ hcj).mono ?_
  rintro e wj ⟨AS, nS, cS, S, AP, nP, cP, P, day, part, duty, rfl, rfl, zS, sOk, RS, rfl, zP, qP, nilP, RP, b1⟩
  have BJ := below_step BJ b1 (Nat.le_refl _); have hcj := hcj.later b1; clear b1
  have hwl := whoL_len S P day part duty; have hwf := fun (h : whoB S P day part duty = true) (i : Nat) (k : Worker) (hk : S[i]? = some k) => who_facts h hk
  obtain ⟨W, hW⟩ : ∃ W, W = whoL S P day part duty := ⟨_, rfl⟩
  obtain ⟨wb, hwb⟩ : ∃ wb, wb = whoB S P day part duty := ⟨_, rfl⟩
  rw [← hW] at hwl hwf; rw [← hwb] at hwf; have HWF := hide hwf; have HW := hide hW; have HWB := hide hwb; clear hwf hW hwb
  go_wp2_with fail
  refine (WhoCan_any S P day part duty _ _ _ _ _ RS RP sOk (by unfold maxLen; omega) (by unfold maxLen; omega) qP).mono ?_
  rintro e wj ⟨Au, cu, rfl, hou, b1⟩
  have BJ := below_step BJ b1 (Nat.le_refl _); have hcj := hcj.later b1; replace RS := Rd.later RS b1; replace RP := Rd.later RP b1
  have Ru := Own.rd_of encI_len hou; have qu := own_cap hou; clear hou b1
  rw [← HW.out, ← HWB.out]; rw [← HW.out] at Ru; clear qu
  go_wp2_with fail
  refine (WhoCan_spec S P day part duty _ _ _ _ _ RS RP sOk (by unfold maxLen; omega) (by unfold maxLen; omega) nilP qP).mono ?_
  rintro e wj ⟨Av, cv, rfl, hov, b1⟩
  have BJ := below_step BJ b1 (Nat.le_refl _); have hcj := hcj.later b1; replace RS := Rd.later RS b1; replace RP := Rd.later RP b1
  replace Ru := Rd.later Ru b1
  have Rv := Own.rd_of encI_len hov; have qv := own_cap hov; clear hov b1
  rw [← HW.out, ← HWB.out]; rw [← HW.out] at Rv; clear qv
  go_wp2_with fail
  refine (rInts_same W W.length rfl _ _ _ _ _ (by omega) Ru Rv).mono ?_
  rintro e wj ⟨rfl, b1⟩
  have BJ := below_step BJ b1 (Nat.le_refl _); have hcj := hcj.later b1; replace RS := Rd.later RS b1; replace RP := Rd.later RP b1; replace Ru := Rd.later Ru b1; clear b1 Rv
  go_upto_block 0 with fail
  go_cut [12, 13, 14, 15, 16, 17] (fun _ _ _ _ _ _ wx => Below w.heap.size w wx)
  case first =>
    as_aux_lemma =>
      go_wp2_with fail
      cases wb
      · go_loop [12] (fun i => i = .int .i64 0) (fun _ => 0)
        case atStart => rfl
        case round =>
          obtain rfl := hrel
          by_cases hl0 : (0 : Int) < (S.length : Int)
          · go_wp2_with fail; go_meet; exact BJ
          · go_wp2_with fail; go_meet; exact BJ
      · have hwf := HWF.out rfl
        have HF := hide hwf; clear hwf
        go_loopw [12] (fun i wr => ∃ k : Nat, k ≤ S.length ∧ i = .int .i64 k ∧ Below wj.heap.size wj wr) (fun i _ => S.length - (intOf i).toNat)
        case atStart => exact ⟨0, Nat.zero_le _, rfl, Below.refl _ _⟩
        case round =>
          obtain ⟨k, hk, rfl, hbel⟩ := hrel
          have BK := below_step BJ hbel (Nat.le_refl _)
          by_cases hlt : k < S.length
          · have RSk := Rd.later RS hbel; have RPk := Rd.later RP hbel; have Ruk := Rd.later Ru hbel
            obtain ⟨c, hget⟩ : ∃ c, S[k]? = some c := ⟨_, List.getElem?_eq_getElem hlt⟩
            obtain ⟨g1, g2, g3, g4, ⟨g5, g6⟩, g7, g8⟩ := HF.out k c hget
            obtain ⟨b, o, hAS, _, hcS⟩ := Worker.rd_at RSk (by intro h; rw [h] at hlt; simp at hlt)
            subst hAS
            obtain ⟨x0, x1, x2, x3⟩ := hcS k c hget
            have hki : (k : Int) < (S.length : Int) := by omega
            obtain ⟨⟨hv, lv, bv⟩, hR⟩ : ∃ t, t = hoursR S P c.id := ⟨_, rfl⟩
            rw [← hR] at g2 g3 g4 g5 g6
            simp only at g2 g3 g4 g5 g6
            subst g2
            obtain ⟨hb, hhb⟩ : ∃ hb, hb = hasB W c.id := ⟨_, rfl⟩
            rw [← hhb] at g1
            have G1 := hide g1; have HR := hide hR; have HHB := hide hhb; clear g1 hR hhb hcS hget
            have hw1 : IntKind.i64.wrap (hv + lv) = hv + lv := by rw [IntKind.wrap_i64]; omega
            have he : (hv + lv == c.hours) = true := by simpa using g3
            have hl : ¬ lv < 0 := by omega
            have ha0 := below_cell (Below.refl _ _) x0; have ha3 := below_cell (Below.refl _ _) x3; clear x1 x2 ha0 ha3
            go_wp2_with fail
            refine (PutShift_any S P ⟨day, part, c.id, duty⟩ _ _ _ _ _ RSk RPk sOk (by unfold maxLen; omega) (by unfold maxLen; omega) qP).mono ?_
            rintro e w1 ⟨Ap, cp, rfl, hop, b1⟩
            rw [G1.out]; clear hop
            replace hbel := below_step hbel b1 (Nat.le_refl _); replace x0 := below_cell b1 x0; replace x3 := below_cell b1 x3; replace RSk := Rd.later RSk b1; replace RPk := Rd.later RPk b1; replace Ruk := Rd.later Ruk b1; clear b1
            go_wp2_with fail
            refine (HoursOf_any S P c.id _ _ _ _ _ RSk RPk sOk (by unfold maxLen; omega) (by unfold maxLen; omega) qP).mono ?_
            rintro e w2 ⟨rfl, b1⟩
            rw [← HR.out]
            replace hbel := below_step hbel b1 (Nat.le_refl _); replace x0 := below_cell b1 x0; replace x3 := below_cell b1 x3; replace Ruk := Rd.later Ruk b1; clear b1 RSk RPk
            cases hb
            · go_wp2_with (go_at_call 56; refine (rHas_any W W.length rfl c.id _ _ _ (by omega) Ruk).mono ?_; rintro e w' ⟨rfl, rfl⟩; rw [← HHB.out])
              go_roundw
              case rel => exact ⟨k + 1, by omega, by go_num, hbel⟩
              case measure => simp [intOf] <;> omega
            · go_wp2_with (go_at_call 56; refine (rHas_any W W.length rfl c.id _ _ _ (by omega) Ruk).mono ?_; rintro e w' ⟨rfl, rfl⟩; rw [← HHB.out])
              go_roundw
              case rel => exact ⟨k + 1, by omega, by go_num, hbel⟩
              case measure => simp [intOf] <;> omega
          · have hki : ¬ (k : Int) < (S.length : Int) := by omega
            go_wp2_with fail; go_meet; exact BK
  clear RS RP hcj BJ zS sOk zP qP nilP Ru HWF HW HWB hwl
  have BJ := hcut; clear hcut
  as_aux_lemma =>
  have hcj := hc.later BJ
  go_wp2_with fail
  refine (DrawFillPart_any A Lc cap _ hcj).mono ?_
  rintro e wj ⟨AS, nS, cS, S, AP, nP, cP, P, day, part, rfl, rfl, zS, sOk, RS, rfl, zP, qP, nilP, RP, b1⟩
  have BJ := below_step BJ b1 (Nat.le_refl _); have hcj := hcj.later b1; clear b1
  have hfl := fillV_len S P day part; have hff := fill_facts (staff := S) (plan := P) (day := day) (part := part)
  obtain ⟨Q, hQ⟩ : ∃ Q, Q = fillV S P day part := ⟨_, rfl⟩
  obtain ⟨fb, hfb⟩ : ∃ fb, fb = fillB S P day part := ⟨_, rfl⟩
  rw [← hQ] at hfl hff; rw [← hfb] at hff; have HFF := hide hff; have HQ := hide hQ; have HFB := hide hfb; clear hff hQ hfb
  go_wp2_with fail
  refine (FillPart_any S P day part _ _ _ _ _ RS RP sOk (by unfold maxLen; omega) (by unfold maxLen; omega) qP).mono ?_
  rintro e wj ⟨Au, cu, rfl, hou, b1⟩
  have BJ := below_step BJ b1 (Nat.le_refl _); have hcj := hcj.later b1; replace RS := Rd.later RS b1; replace RP := Rd.later RP b1
  have Ru := Own.rd_of Shift.enc_len hou; have qu := own_cap hou; clear hou b1
  rw [← HQ.out, ← HFB.out]; rw [← HQ.out] at Ru qu
  go_wp2_with fail
  refine (FillPart_spec S P day part _ _ _ _ _ RS RP sOk (by unfold maxLen; omega) (by unfold maxLen; omega) nilP qP).mono ?_
  rintro e wj ⟨Av, cv, rfl, hov, b1⟩
  have BJ := below_step BJ b1 (Nat.le_refl _); have hcj := hcj.later b1; replace RS := Rd.later RS b1; replace RP := Rd.later RP b1
  replace Ru := Rd.later Ru b1
  have Rv := Own.rd_of Shift.enc_len hov; have qv := own_cap hov; clear hov b1
  rw [← HQ.out, ← HFB.out]; rw [← HQ.out] at Rv; clear qv
  go_wp2_with fail
  refine (rShifts_same Q Q.length rfl _ _ _ _ _ (by omega) Ru Rv).mono ?_
  rintro e wj ⟨rfl, b1⟩
  have BJ := below_step BJ b1 (Nat.le_refl _); have hcj := hcj.later b1; replace RS := Rd.later RS b1; replace RP := Rd.later RP b1; replace Ru := Rd.later Ru b1; clear b1 Rv
  go_upto_if 175 with fail
  go_cut [26, 27, 28] (fun _ _ _ wx => Below w.heap.size w wx)
  case first =>
    as_aux_lemma =>
      cases fb
      · go_wp2_with fail
        go_meet
        exact BJ
      · obtain ⟨f1, f2⟩ := HFF.out rfl
        have F1 := hide f1; have F2 := hide f2; clear f1 f2
        obtain ⟨V, hV⟩ : ∃ V, V = uncV S Q := ⟨_, rfl⟩
        have hvl := (uncV_len S Q).1; rw [← hV] at hvl; have HV := hide hV; clear hV
        go_wp2_with fail
        refine (UncoveredParts_any S Q _ _ _ _ _ RS Ru sOk (by unfold maxLen; omega) (by unfold maxLen; omega) qu).mono ?_
        rintro e wj ⟨At, ct, rfl, ht, b1⟩
        have BJ := below_step BJ b1 (Nat.le_refl _); have hcj := hcj.later b1; replace RS := Rd.later RS b1; replace RP := Rd.later RP b1; replace Ru := Rd.later Ru b1; clear b1
        rw [← HV.out, F1.out]; rw [← HV.out] at ht
        go_wp2_with (go_at_call 28; refine (IsPlan_is F1.out _ _ _ _ _ RS Ru sOk (by unfold maxLen; omega) (by unfold maxLen; omega) qu).mono ?_; rintro e wk ⟨rfl, b1⟩; have BJ := below_step BJ b1 (Nat.le_refl _); have ht := ht.below b1)
        obtain ⟨R, eR, lR, rR, dR⟩ := ht.len
        have HDR := hide dR; clear ht RS RP Ru dR
        go_loop [28] (fun i => ∃ k : Nat, k ≤ V.length ∧ i = .int .i64 k) (fun i => V.length - (intOf i).toNat)
        case atStart => exact ⟨0, Nat.zero_le _, rfl⟩
        case round =>
          obtain ⟨k, hk, rfl⟩ := hrel
          by_cases hlt : k < V.length
          · have hkR : k < R.length := by omega
            obtain ⟨r, hget⟩ : ∃ r, R[k]? = some r := ⟨_, List.getElem?_eq_getElem hkR⟩
            obtain ⟨b, o, hAt, hcT⟩ := row_cell rR (by intro h; rw [h] at hkR; simp at hkR)
            subst hAt
            have y := hcT k r hget
            have hx : r.xs ∈ uncV S Q := by rw [← HV.out, ← eR]; exact List.mem_map_of_mem (List.mem_of_getElem? hget)
            obtain ⟨d', p', exs, hne⟩ := unc_row F2.out hx
            have q := HDR.out r (List.mem_of_getElem? hget)
            rw [exs] at y q
            obtain ⟨b2, o2, hA2, _, hc2⟩ := rd_int q (by simp)
            rw [hA2] at y
            have z0 := hc2 0 d' rfl; have z1 := hc2 1 p' rfl
            rw [Nat.add_zero] at z0
            have hki : (k : Int) < (V.length : Int) := by omega
            generalize r.c = rc at y
            clear hcT hx q hc2 hA2 exs hget rR
            have y2 : _ = some (Value.slice (some ⟨b2, o2, none⟩) 2 rc) := y
            clear y
            by_cases hdd : d' = day
            · have h1 : (d' == day) = true := by simpa using hdd
              have h2 : (p' == part) = false := by simp; intro hp; exact hne ⟨hdd, hp⟩
              clear hne hdd
              go_wp2_with fail
              go_round
              case rel => exact ⟨k + 1, by omega, by go_num⟩
              case measure => simp [intOf] <;> omega
            · have h1 : (d' == day) = false := by simpa using hdd
              clear hne hdd
              go_wp2_with fail
              go_round
              case rel => exact ⟨k + 1, by omega, by go_num⟩
              case measure => simp [intOf] <;> omega
          · have hki : ¬ (k : Int) < (V.length : Int) := by omega
            go_wp2_with fail; go_meet; exact BJ
  clear RS RP hcj BJ zS sOk zP qP nilP Ru HFF HQ HFB hfl qu
  have BJ := hcut; clear hcut
  as_aux_lemma =>
  have hcj := hc.later BJ
  go_wp2_with fail
  refine (DrawPutShift_any A Lc cap _ hcj).mono ?_
  rintro e wj ⟨AS, nS, cS, S, AP, nP, cP, P, s, rfl, rfl, zS, sOk, RS, rfl, zP, qP, nilP, RP, b1⟩
  have BJ := below_step BJ b1 (Nat.le_refl _); have hcj := hcj.later b1; clear b1
  go_upto_region 30 with fail
  have b1 : Below wj.heap.size wj (wj.alloc (.cells #[.int .i64 s.day, .int .i64 s.part, .int .i64 s.who, .int .i64 s.duty] 66)) := (Below.refl _ _).alloc (Nat.le_refl _) _
  obtain ⟨z0, z1, z2, z3⟩ := Shift.box_after wj s 66 ⟨_, Below.refl _ _⟩
  have BJ := below_step BJ b1 (Nat.le_refl _); have hcj := hcj.later b1; replace RS := Rd.later RS b1; replace RP := Rd.later RP b1; clear b1
  generalize (wj.alloc (.cells #[.int .i64 s.day, .int .i64 s.part, .int .i64 s.who, .int .i64 s.duty] 66)) = wz at *
  generalize wj.heap.size = pz at *
  have hpl := putRL_len S P s
  obtain ⟨Q, hQ⟩ : ∃ Q, Q = putRL S P s := ⟨_, rfl⟩
  obtain ⟨pb, hpb⟩ : ∃ pb, pb = putRB S P s := ⟨_, rfl⟩
  rw [← hQ] at hpl; have HQ := hide hQ; have HPB := hide hpb; clear hQ hpb
  go_wp2_with fail
  refine (PutShift_any S P s _ _ _ _ _ RS RP sOk (by unfold maxLen; omega) (by unfold maxLen; omega) qP).mono ?_
  rintro e wj ⟨Au, cu, rfl, hou, b1⟩
  have BJ := below_step BJ b1 (Nat.le_refl _); have hcj := hcj.later b1; replace RS := Rd.later RS b1; replace RP := Rd.later RP b1; replace z0 := below_cell b1 z0; replace z1 := below_cell b1 z1; replace z2 := below_cell b1 z2; replace z3 := below_cell b1 z3
  have Ru := Own.rd_of Shift.enc_len hou; have qu := own_cap hou; clear hou b1
  rw [← HQ.out, ← HPB.out]; rw [← HQ.out] at Ru; clear qu
  go_wp2_with fail
  refine (PutShift_spec S P s _ _ _ _ _ RS RP sOk (by unfold maxLen; omega) (by unfold maxLen; omega) nilP qP).mono ?_
  rintro e wj ⟨Av, cv, rfl, hov, b1⟩
  have BJ := below_step BJ b1 (Nat.le_refl _); have hcj := hcj.later b1; replace RS := Rd.later RS b1; replace RP := Rd.later RP b1; replace z0 := below_cell b1 z0; replace z1 := below_cell b1 z1; replace z2 := below_cell b1 z2; replace z3 := below_cell b1 z3
  replace Ru := Rd.later Ru b1
  have Rv := Own.rd_of Shift.enc_len hov; have qv := own_cap hov; clear hov b1
  rw [← HQ.out, ← HPB.out]; rw [← HQ.out] at Rv; clear qv
  go_wp2_with fail
  refine (rShifts_same Q Q.length rfl _ _ _ _ _ (by omega) Ru Rv).mono ?_
  rintro e wj ⟨rfl, b1⟩
  have BJ := below_step BJ b1 (Nat.le_refl _); clear b1 Ru Rv RS RP hcj z0 z1 z2 z3 HQ HPB hpl zS sOk zP qP nilP
  as_aux_lemma =>
  have hcj := hc.later BJ
  go_wp2_with fail
  refine (DrawUncoveredParts_any A Lc cap _ hcj).mono ?_
  rintro e wj ⟨AS, nS, cS, S, AP, nP, cP, P, rfl, rfl, zS, sOk, RS, rfl, zP, qP, nilP, RP, b1⟩
  have BJ := below_step BJ b1 (Nat.le_refl _); have hcj := hcj.later b1; clear b1
  obtain ⟨hvl, _, hvr⟩ := uncV_len S P
  obtain ⟨V, hV⟩ : ∃ V, V = uncV S P := ⟨_, rfl⟩
  obtain ⟨pb, hpb⟩ : ∃ pb, pb = planB S P := ⟨_, rfl⟩
  rw [← hV] at hvl hvr; have HV := hide hV; have HPB := hide hpb; have HVR := hide hvr; clear hV hpb hvr
  go_wp2_with fail
  refine (UncoveredParts_any S P _ _ _ _ _ RS RP sOk (by unfold maxLen; omega) (by unfold maxLen; omega) qP).mono ?_
  rintro e wj ⟨Au, cu, rfl, hu, b1⟩
  have BJ := below_step BJ b1 (Nat.le_refl _); have hcj := hcj.later b1; replace RS := Rd.later RS b1; replace RP := Rd.later RP b1; clear b1
  rw [← HV.out, ← HPB.out]; rw [← HV.out] at hu
  go_wp2_with fail
  refine (UncoveredParts_spec S P _ _ _ _ _ RS RP sOk (by unfold maxLen; omega) (by unfold maxLen; omega)).mono ?_
  rintro e wj ⟨Av, cv, rfl, hv, b1⟩
  have BJ := below_step BJ b1 (Nat.le_refl _); have hcj := hcj.later b1; replace RS := Rd.later RS b1; replace RP := Rd.later RP b1; replace hu := hu.below b1; clear b1
  rw [← HV.out, ← HPB.out]; rw [← HV.out] at hv
  go_wp2_with fail
  refine (rTable_same V _ _ _ _ _ _ _ _ _ (by omega) HVR.out hu hv).mono ?_
  rintro e wj ⟨rfl, b1⟩
  have BJ := below_step BJ b1 (Nat.le_refl _); have hcj := hcj.later b1; replace RS := Rd.later RS b1; replace RP := Rd.later RP b1; clear b1 hu hv
  go_wp2_with fail
  refine (IsPlan_is HPB.out.symm _ _ _ _ _ RS RP sOk (by unfold maxLen; omega) (by unfold maxLen; omega) qP).mono ?_
  rintro e wj ⟨rfl, b1⟩
  have BJ := below_step BJ b1 (Nat.le_refl _); have hcj := hcj.later b1; replace RS := Rd.later RS b1; replace RP := Rd.later RP b1; clear b1
  go_wp2_with fail
  refine (IsPlan_spec S P _ _ _ _ _ RS RP sOk (by unfold maxLen; omega) (by unfold maxLen; omega)).mono ?_
  rintro e wj ⟨rfl, b1⟩
  rw [← HPB.out]; have BJ := below_step BJ b1 (Nat.le_refl _); clear b1
  cases pb <;> (go_wp2_with fail; go_ret; exact ⟨rfl, BJ⟩)
open Go.ChangeShapes Go.WideShapes Go.ChangeAt Go.RowKit
theorem elU8 {H : Type} {enc : TypeId × Value → H} {w : World} {base : Nat} {spare : Nat → Bool} {held : Bool} (n : Nat) (cs : List Value) (y : DataW H × List MemPlace) (h : DataW.trod enc Try.prog w base spare held n 5 cs = some y) : ∃ c : Int, cs = encU8 c ∧ 0 ≤ c ∧ c < 256 := by
  obtain ⟨k, hk, _, hw⟩ := DataW.trod_int Try.underlying5 h
  have hw2 : 0 ≤ k ∧ k ≤ 255 := by simpa [Lit.wf, IntKind.min, IntKind.max, IntKind.bits, IntKind.signed] using hw
  exact ⟨k, hk, by omega, by omega⟩
set_option maxRecDepth 100000 in
theorem lifted (os : Os) (started : os.Started) (H : Type) (enc : TypeId × Value → H) :
    ReturnsInHanded {} Try.checked os 13 .any (Rows.fnShiftsSpec.pre6 enc Try.prog Try.f13 Rows.fnShiftsRow.domain false) (Rows.fnShiftsSpec.post enc Try.prog Try.f13 false true false false) := by
  refine returnsInHanded_of_change (C := Try.checked) own started (by kernel_rfl) Try.func13
    (ChangeSpec.witness6 (enc := enc) (C := Try.checked) false ⟨#[], #[.slice none 0 0], []⟩ 8 (by kernel_rfl) (by kernel_rfl) (by kernel_rfl) (by kernel_rfl)) ?_
  intro W base args ds gs before hval0 hW hcnd _
  have hval : ∀ (j : Nat) t v, Try.f13.params[j]? = some t → args[j]? = some v → Value.okWide Try.prog W .any base t v := hval0
  have hW' := hW
  obtain ⟨p, q, hA0, hV, rfl, hfz, hnd⟩ := hW
  have hA : DataW.TrodAll enc Try.prog W 0 (fun _ => true) true Try.f13.params.toList args.toList ds p := hA0
  rw [Try.params13] at hA hval
  obtain ⟨v0, vs0, d0, ds0, p0, q0, hargs, rfl, rfl, h0, e0⟩ := trodAll_cons hA
  obtain ⟨rfl, rfl, rfl⟩ := trodAll_nil e0
  obtain rfl : args = #[v0] := by cases args; simp_all
  obtain ⟨rfl, rfl⟩ := trodVars_none hV
  have k0 := h0
  have lt0 : ∀ x ∈ p0, x.block < W.heap.size := by obtain ⟨m, hm⟩ := k0; exact DataW.trod_lt m _ _ _ hm
  obtain ⟨A0, len0, c0, rfl⟩ := okWide_slice Try.underlying49 (hval 0 49 v0 rfl rfl)
  obtain ⟨fu0, hf0⟩ := h0
  obtain ⟨L0, rfl, r0, g0, l0⟩ := open_list (encα := encU8) (m := 1) (Good := fun c => 0 ≤ c ∧ c < 256) Try.underlying49 (by kernel_rfl) (by decide) encU8_len elU8 hf0
  clear hA0 hval0
  refine (walk L0 A0 c0 W ⟨l0, g0, r0⟩).mono fun e W' ⟨he, bel⟩ => ?_
  subst he
  exact ⟨_, rfl, _, _, _, [], _, [], hW', trodAll_mk1 (shut_bool Try.underlying4 _), (trodAll_cons_mk (Below.trod laidOut (by kernel_rfl) (of_decide_eq_true (by kernel_rfl)) k0 bel lt0) trodAll_mk0), rfl, bel.frame _, fun h => by cases h⟩
theorem over : Rows.fnShiftsRow.holds Try.pinned (OpenSpec.ofChange Rows.fnShiftsSpec) :=
  OpenClaim.holds_of_wide 13 Try.f13 rfl rfl rfl rfl rfl rfl rfl ⟨rfl, rfl, rfl, rfl, rfl⟩ rfl rfl rfl rfl rfl (by kernel_rfl) Try.func13 (by kernel_rfl)
    (of_decide_eq_true (by kernel_rfl)) (by unfold Func.isWrapper; first | (rw [if_pos (by decide +kernel)]; kernel_rfl) | (rw [if_neg (by decide +kernel)]; exact ⟨rfl, rfl⟩))
    (fun os started H enc _ => lifted os started H enc)
theorem proved : Rows.FnShiftsSaid := over
#print axioms proved
end Go.Proofs.Ytfaicjlpncidgaa.lawShifts
