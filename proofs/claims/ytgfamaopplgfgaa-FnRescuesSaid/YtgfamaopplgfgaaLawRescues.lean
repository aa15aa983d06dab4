/- The law FnRescues: for every input its call returns true and changes nothing that was there. The nearest crew needs the least time, and a crew is at a support of its span then; sums and the fullest span. No condition. -/
import Derived.Test.YtgfamaopplgfgaaRescues
import Derived.Test.YtgfamaopplgfgaaNear
import Derived.Test.YtgfamaopplgfgaaSpan2
import Derived.Test.YtgfamaopplgfgaaPeople
import Derived.Test.YtgfamaopplgfgaaOpen
namespace Go.Proofs.Ytgfamaopplgfgaa.lawRescues
open Go Go.RowKit
set_option linter.unusedVariables false
set_option maxRecDepth 100000 in
set_option maxHeartbeats 8000000 in
theorem walk (Lc : List Int) (A : Option Addr) (cap : Nat) (w : World) (hc : CodeIs w A Lc) :
    Calls Try.prog 12 #[.slice A Lc.length cap] w fun e w' => e = .returned (.bool true) ∧ Below w.heap.size w w' := by
  have hl := hc.1
  by_cases hbig : (65536 : Int) < (Lc.length : Int)
  · have hd : decide ((65536 : Int) < (Lc.length : Int)) = true := by simpa using hbig
    go_enter Try.func12, Try.ntmps12
    go_wp2_with fail
    refine (vBig_any _ A cap w hl).mono ?_
    rintro e w1 ⟨rfl, rfl⟩
    rw [hd]; clear hd hbig
    go_wp2_with fail
    go_ret
    exact ⟨rfl, Below.refl _ _⟩
  · have hd : decide ((65536 : Int) < (Lc.length : Int)) = false := by simpa using hbig
    go_enter Try.func12, Try.ntmps12
    go_wp2_with fail
    refine (vBig_any _ A cap w hl).mono ?_
    rintro e w1 ⟨rfl, rfl⟩
    rw [hd]; clear hd hbig
    go_wp2_with fail
    refine (DrawNearestCrew_any A Lc cap w hc).mono ?_
    rintro e w1 ⟨AL, nL, cL, L, AC, nC, cC, C, AP, nP, cP, P, x, rfl, rfl, zL, RL, rfl, zC, RC, rfl, zP, RP, b1⟩
    have B1 : Below w.heap.size w w1 := b1
    cases hnb : nearB L C P x
    · have HNB := hide hnb
      clear hnb
      go_wp2_with fail
      refine (NearestCrew_any L C P AL AC AP cL cC cP x _ RL (fun _ _ => trivial) (by unfold maxLen; omega) RC (by unfold maxLen; omega) RP (by unfold maxLen; omega)).mono ?_
      rintro e w2 ⟨rfl, b2⟩
      have B2 : Below w.heap.size w w2 := below_step B1 b2 (Nat.le_refl _)
      replace RL := Rd.later RL b2
      replace RC := Rd.later RC b2
      replace RP := Rd.later RP b2
      rw [HNB.out]
      go_wp2_with fail
      refine (NearestCrew_spec L C P AL AC AP cL cC cP x _ RL (fun _ _ => trivial) (by unfold maxLen; omega) RC (by unfold maxLen; omega) RP (by unfold maxLen; omega)).mono ?_
      rintro e w3 ⟨rfl, b3⟩
      have B3 : Below w.heap.size w w3 := below_step B2 b3 (Nat.le_refl _)
      replace RL := Rd.later RL b3
      replace RC := Rd.later RC b3
      replace RP := Rd.later RP b3
      rw [HNB.out]
      have BJ := B3
      obtain ⟨wr, hwr⟩ : ∃ wr, wr = w3 := ⟨_, rfl⟩
      rw [← hwr] at BJ ⊢; clear hwr
      clear RL RC RP
      have hcj := hc.later BJ
      go_wp2_with fail
      refine (DrawSpanTime_any A Lc cap _ hcj).mono ?_
      rintro e z1 ⟨AL, nL, cL, L, AC, nC, cC, C, AP, nP, cP, P, x, y, q, rfl, rfl, zL, RL, rfl, zC, RC, rfl, zP, RP, b1⟩
      have BJ := below_step BJ b1 (Nat.le_refl _)
      go_wp2_with fail
      refine (SpanTime_any L C P _ _ _ _ _ _ x y q _ RL (fun _ _ => trivial) (by unfold maxLen; omega) RC (by unfold maxLen; omega) RP (by unfold maxLen; omega)).mono ?_
      rintro e z2 ⟨rfl, b1⟩
      have BJ := below_step BJ b1 (Nat.le_refl _); replace RL := Rd.later RL b1; replace RC := Rd.later RC b1; replace RP := Rd.later RP b1
      go_wp2_with fail
      refine (SpanTime_spec L C P _ _ _ _ _ _ x y q _ RL (fun _ _ => trivial) (by unfold maxLen; omega) RC (by unfold maxLen; omega) RP (by unfold maxLen; omega)).mono ?_
      rintro e z2 ⟨rfl, b1⟩
      have BJ := below_step BJ b1 (Nat.le_refl _); replace RL := Rd.later RL b1; replace RC := Rd.later RC b1; replace RP := Rd.later RP b1
      clear RL RC RP zL zC zP hcj
      have hcj := hc.later BJ
      go_wp2_with fail
      refine (DrawPeopleUp_any A Lc cap _ hcj).mono ?_
      rintro e z3 ⟨AL, nL, cL, L, AP, nP, cP, P, rfl, rfl, zL, RL, rfl, zP, RP, b1⟩
      have BJ := below_step BJ b1 (Nat.le_refl _)
      cases hgp : goodP L P
      · have HGP := hide hgp
        clear hgp
        go_wp2_with fail
        refine (PeopleUp_any L P _ _ _ _ _ RL (fun _ _ => trivial) (by unfold maxLen; omega) RP (by unfold maxLen; omega)).mono ?_
        rintro e z4 ⟨rfl, b1⟩
        have BJ := below_step BJ b1 (Nat.le_refl _); replace RL := Rd.later RL b1; replace RP := Rd.later RP b1
        rw [HGP.out]
        go_wp2_with fail
        refine (FullestSpan_any L P _ _ _ _ _ RL (fun _ _ => trivial) (by unfold maxLen; omega) RP (by unfold maxLen; omega)).mono ?_
        rintro e z4 ⟨rfl, b1⟩
        have BJ := below_step BJ b1 (Nat.le_refl _); replace RL := Rd.later RL b1; replace RP := Rd.later RP b1
        rw [HGP.out]
        go_wp2_with fail
        refine (PeopleUp_spec L P _ _ _ _ _ RL (fun _ _ => trivial) (by unfold maxLen; omega) RP (by unfold maxLen; omega)).mono ?_
        rintro e z4 ⟨rfl, b1⟩
        have BJ := below_step BJ b1 (Nat.le_refl _); replace RL := Rd.later RL b1; replace RP := Rd.later RP b1
        rw [HGP.out]
        go_wp2_with fail
        refine (FullestSpan_spec L P _ _ _ _ _ RL (fun _ _ => trivial) (by unfold maxLen; omega) RP (by unfold maxLen; omega)).mono ?_
        rintro e z4 ⟨rfl, b1⟩
        have BJ := below_step BJ b1 (Nat.le_refl _); replace RL := Rd.later RL b1; replace RP := Rd.later RP b1
        rw [HGP.out]
        go_wp2_with fail
        go_ret
        exact ⟨rfl, BJ⟩
      · have HGP := hide hgp
        obtain ⟨kf, nf, hfv, hgf, huv, hn0, hn1, hsm⟩ := full_all hgp
        have hbd := sum_bd hgp; have hbn := hbd P.length; rw [List.take_length] at hbn
        have hpl := goodP_len hgp
        have HFV := hide hfv; have HUV := hide huv; have HBD := hide hbd; have hkf := (List.getElem?_eq_some_iff.1 hgf).1; have HGF := hide hgf
        clear hfv huv hbd hgf
        clear hgp
        go_wp2_with fail
        refine (PeopleUp_any L P _ _ _ _ _ RL (fun _ _ => trivial) (by unfold maxLen; omega) RP (by unfold maxLen; omega)).mono ?_
        rintro e z4 ⟨rfl, b1⟩
        have BJ := below_step BJ b1 (Nat.le_refl _); replace RL := Rd.later RL b1; replace RP := Rd.later RP b1
        rw [HGP.out, HUV.out]
        go_wp2_with fail
        refine (FullestSpan_any L P _ _ _ _ _ RL (fun _ _ => trivial) (by unfold maxLen; omega) RP (by unfold maxLen; omega)).mono ?_
        rintro e z4 ⟨rfl, b1⟩
        have BJ := below_step BJ b1 (Nat.le_refl _); replace RL := Rd.later RL b1; replace RP := Rd.later RP b1
        rw [HGP.out, HFV.out]
        go_wp2_with fail
        refine (PeopleUp_spec L P _ _ _ _ _ RL (fun _ _ => trivial) (by unfold maxLen; omega) RP (by unfold maxLen; omega)).mono ?_
        rintro e z4 ⟨rfl, b1⟩
        have BJ := below_step BJ b1 (Nat.le_refl _); replace RL := Rd.later RL b1; replace RP := Rd.later RP b1
        rw [HGP.out, HUV.out]
        go_wp2_with fail
        refine (FullestSpan_spec L P _ _ _ _ _ RL (fun _ _ => trivial) (by unfold maxLen; omega) RP (by unfold maxLen; omega)).mono ?_
        rintro e z4 ⟨rfl, b1⟩
        have BJ := below_step BJ b1 (Nat.le_refl _); replace RL := Rd.later RL b1; replace RP := Rd.later RP b1
        rw [HGP.out, HFV.out]
        obtain ⟨bP, oP, rfl, _, hcP⟩ := rd_int RP (by intro h; subst h; simp at hkf)
        have yf := hcP kf nf HGF.out
        have hkfI : (kf : Int) < (P.length : Int) := by omega
        have hPs := hide (vSum_any P (some ⟨bP, oP, none⟩) cP z4 (by unfold maxLen; omega) RP (fun k hk => by have := HBD.out k; omega))
        generalize hS : P.sum = S at *
        have HS := hide hS; clear hS hcP
        have hm0 : 0 ≤ nf * (P.length : Int) ∧ nf * (P.length : Int) ≤ 60 * 6 := by rw [Int.mul_comm]; exact (by have := mul_bd2 (a := (P.length : Int)) (b := nf) (m := 6) (n := 60) (by omega) (by omega) hn0 hn1; omega)
        obtain ⟨hm0, hm1⟩ := hm0
        go_wp2_with (go_at_call 52; refine hPs.out.mono ?_; rintro e z5 ⟨rfl, rfl⟩)
        go_ret
        exact ⟨by first | rfl | (refine ret_bool ?_; simp; omega), BJ⟩
    · have HNB := hide hnb
      obtain ⟨kn, cn, hv, hgn, hall⟩ := near_all hnb
      have hkn := (List.getElem?_eq_some_iff.1 hgn).1
      obtain ⟨hx0, hx1⟩ : 0 ≤ x ∧ x ≤ 200 := by have h2 := hnb; simp only [nearB, Bool.and_eq_true] at h2; have := inB_iff.1 h2.2; omega
      have hknI : (kn : Int) < (C.length : Int) := by omega
      obtain ⟨bC, oC, rfl, hbC, hcC⟩ := Crew.rd_at RC (by intro h; subst h; simp at hkn)
      have y0 := (hcC kn cn hgn).1
      have hask := askS_of hnb hgn; have hspw := spanW_of hnb hgn
      have HALL := hide hall; have HGN := hide hgn; have HV := hide hv; have HC := hide hcC; have HASK := hide hask
      clear hall hgn hcC hask hv
      clear hnb
      go_wp2_with fail
      refine (NearestCrew_any L C P AL _ AP cL cC cP x _ RL (fun _ _ => trivial) (by unfold maxLen; omega) RC (by unfold maxLen; omega) RP (by unfold maxLen; omega)).mono ?_
      rintro e w2 ⟨rfl, b2⟩
      have B2 : Below w.heap.size w w2 := below_step B1 b2 (Nat.le_refl _)
      replace RL := Rd.later RL b2
      replace RC := Rd.later RC b2
      replace RP := Rd.later RP b2
      replace y0 := below_cell b2 y0; rw [HV.out]
      rw [HNB.out]
      go_wp2_with fail
      refine (NearestCrew_spec L C P AL _ AP cL cC cP x _ RL (fun _ _ => trivial) (by unfold maxLen; omega) RC (by unfold maxLen; omega) RP (by unfold maxLen; omega)).mono ?_
      rintro e w3 ⟨rfl, b3⟩
      have B3 : Below w.heap.size w w3 := below_step B2 b3 (Nat.le_refl _)
      replace RL := Rd.later RL b3
      replace RC := Rd.later RC b3
      replace RP := Rd.later RP b3
      replace y0 := below_cell b3 y0; rw [HV.out]
      rw [HNB.out]
      have hspv : ∃ v0 : Int, spanV L C P kn cn.support x = v0 := ⟨_, rfl⟩
      obtain ⟨v0, hv0⟩ := hspv; have HV0 := hide hv0; clear hv0
      go_wp2_with fail
      refine (SpanTime_any L C P _ _ _ _ _ _ (kn : Int) cn.support x _ RL (fun _ _ => trivial) (by unfold maxLen; omega) RC (by unfold maxLen; omega) RP (by unfold maxLen; omega)).mono ?_
      rintro e w4 ⟨rfl, b4⟩
      have B4 : Below w.heap.size w w4 := below_step B3 b4 (Nat.le_refl _)
      replace RL := Rd.later RL b4
      replace RC := Rd.later RC b4
      replace RP := Rd.later RP b4
      rw [HASK.out, HV0.out]
      have hspo : ∃ t0 : Int, spanW L C P kn cn.support x = t0 := ⟨_, rfl⟩
      obtain ⟨t0, ht0⟩ := hspo; rw [ht0] at hspw ⊢; clear ht0
      by_cases ht : t0 = x
      · have ht1 : (t0 != x) = false := by simpa using ht
        go_wp2_with fail
        go_loopw [14] (fun i wr => ∃ j : Nat, j ≤ C.length ∧ i = .int .i64 j ∧ Below w4.heap.size w4 wr) (fun i _ => C.length - (intOf i).toNat)
        case atStart => exact ⟨0, Nat.zero_le _, rfl, Below.refl _ _⟩
        case round =>
          obtain ⟨j, hj, rfl, hbel⟩ := hrel
          have BJ : Below w.heap.size w wr := below_step B4 hbel (Nat.le_refl _)
          by_cases hlt : j < C.length
          · have hgj := List.getElem?_eq_getElem hlt
            have RLj := Rd.later RL hbel; have RCj := Rd.later RC hbel; have RPj := Rd.later RP hbel
            obtain ⟨bC', oC', hA', _, hcj⟩ := Crew.rd_at RCj (by intro h; subst h; simp at hlt)
            cases hA'
            have yj := (hcj j _ hgj).1
            have hlj : (j : Int) < (C.length : Int) := by omega
            have haj := askS_of HNB.out hgj
            have hle := HALL.out j _ hgj
            generalize C[j] = cj at *
            rw [HV0.out] at hle
            have hvj : ∃ vj : Int, spanV L C P j cj.support x = vj := ⟨_, rfl⟩
            obtain ⟨vj, hvj⟩ := hvj; rw [hvj] at hle; have HVJ := hide hvj; have HAJ := hide haj; clear hvj haj hcj hgj
            have hnl : ¬ vj < v0 := by omega
            go_wp2_with fail
            refine (SpanTime_any L C P _ _ _ _ _ _ (j : Int) cj.support x _ RLj (fun _ _ => trivial) (by unfold maxLen; omega) RCj (by unfold maxLen; omega) RPj (by unfold maxLen; omega)).mono ?_
            rintro e wz ⟨rfl, bz⟩
            rw [HAJ.out, HVJ.out]
            go_wp2_with fail
            go_roundw
            case rel => exact ⟨j + 1, by omega, by go_num, below_step hbel bz (Nat.le_refl _)⟩
            case measure => simp [intOf] <;> omega
          · obtain rfl : j = C.length := by omega
            clear RL RC RP
            have hcj := hc.later BJ
            go_wp2_with fail
            refine (DrawSpanTime_any A Lc cap _ hcj).mono ?_
            rintro e z1 ⟨AL, nL, cL, L, AC, nC, cC, C, AP, nP, cP, P, x, y, q, rfl, rfl, zL, RL, rfl, zC, RC, rfl, zP, RP, b1⟩
            have BJ := below_step BJ b1 (Nat.le_refl _)
            go_wp2_with fail
            refine (SpanTime_any L C P _ _ _ _ _ _ x y q _ RL (fun _ _ => trivial) (by unfold maxLen; omega) RC (by unfold maxLen; omega) RP (by unfold maxLen; omega)).mono ?_
            rintro e z2 ⟨rfl, b1⟩
            have BJ := below_step BJ b1 (Nat.le_refl _); replace RL := Rd.later RL b1; replace RC := Rd.later RC b1; replace RP := Rd.later RP b1
            go_wp2_with fail
            refine (SpanTime_spec L C P _ _ _ _ _ _ x y q _ RL (fun _ _ => trivial) (by unfold maxLen; omega) RC (by unfold maxLen; omega) RP (by unfold maxLen; omega)).mono ?_
            rintro e z2 ⟨rfl, b1⟩
            have BJ := below_step BJ b1 (Nat.le_refl _); replace RL := Rd.later RL b1; replace RC := Rd.later RC b1; replace RP := Rd.later RP b1
            clear RL RC RP zL zC zP hcj
            have hcj := hc.later BJ
            go_wp2_with fail
            refine (DrawPeopleUp_any A Lc cap _ hcj).mono ?_
            rintro e z3 ⟨AL, nL, cL, L, AP, nP, cP, P, rfl, rfl, zL, RL, rfl, zP, RP, b1⟩
            have BJ := below_step BJ b1 (Nat.le_refl _)
            cases hgp : goodP L P
            · have HGP := hide hgp
              clear hgp
              go_wp2_with fail
              refine (PeopleUp_any L P _ _ _ _ _ RL (fun _ _ => trivial) (by unfold maxLen; omega) RP (by unfold maxLen; omega)).mono ?_
              rintro e z4 ⟨rfl, b1⟩
              have BJ := below_step BJ b1 (Nat.le_refl _); replace RL := Rd.later RL b1; replace RP := Rd.later RP b1
              rw [HGP.out]
              go_wp2_with fail
              refine (FullestSpan_any L P _ _ _ _ _ RL (fun _ _ => trivial) (by unfold maxLen; omega) RP (by unfold maxLen; omega)).mono ?_
              rintro e z4 ⟨rfl, b1⟩
              have BJ := below_step BJ b1 (Nat.le_refl _); replace RL := Rd.later RL b1; replace RP := Rd.later RP b1
              rw [HGP.out]
              go_wp2_with fail
              refine (PeopleUp_spec L P _ _ _ _ _ RL (fun _ _ => trivial) (by unfold maxLen; omega) RP (by unfold maxLen; omega)).mono ?_
              rintro e z4 ⟨rfl, b1⟩
              have BJ := below_step BJ b1 (Nat.le_refl _); replace RL := Rd.later RL b1; replace RP := Rd.later RP b1
              rw [HGP.out]
              go_wp2_with fail
              refine (FullestSpan_spec L P _ _ _ _ _ RL (fun _ _ => trivial) (by unfold maxLen; omega) RP (by unfold maxLen; omega)).mono ?_
              rintro e z4 ⟨rfl, b1⟩
              have BJ := below_step BJ b1 (Nat.le_refl _); replace RL := Rd.later RL b1; replace RP := Rd.later RP b1
              rw [HGP.out]
              go_wp2_with fail
              go_ret
              exact ⟨rfl, BJ⟩
            · have HGP := hide hgp
              obtain ⟨kf, nf, hfv, hgf, huv, hn0, hn1, hsm⟩ := full_all hgp
              have hbd := sum_bd hgp; have hbn := hbd P.length; rw [List.take_length] at hbn
              have hpl := goodP_len hgp
              have HFV := hide hfv; have HUV := hide huv; have HBD := hide hbd; have hkf := (List.getElem?_eq_some_iff.1 hgf).1; have HGF := hide hgf
              clear hfv huv hbd hgf
              clear hgp
              go_wp2_with fail
              refine (PeopleUp_any L P _ _ _ _ _ RL (fun _ _ => trivial) (by unfold maxLen; omega) RP (by unfold maxLen; omega)).mono ?_
              rintro e z4 ⟨rfl, b1⟩
              have BJ := below_step BJ b1 (Nat.le_refl _); replace RL := Rd.later RL b1; replace RP := Rd.later RP b1
              rw [HGP.out, HUV.out]
              go_wp2_with fail
              refine (FullestSpan_any L P _ _ _ _ _ RL (fun _ _ => trivial) (by unfold maxLen; omega) RP (by unfold maxLen; omega)).mono ?_
              rintro e z4 ⟨rfl, b1⟩
              have BJ := below_step BJ b1 (Nat.le_refl _); replace RL := Rd.later RL b1; replace RP := Rd.later RP b1
              rw [HGP.out, HFV.out]
              go_wp2_with fail
              refine (PeopleUp_spec L P _ _ _ _ _ RL (fun _ _ => trivial) (by unfold maxLen; omega) RP (by unfold maxLen; omega)).mono ?_
              rintro e z4 ⟨rfl, b1⟩
              have BJ := below_step BJ b1 (Nat.le_refl _); replace RL := Rd.later RL b1; replace RP := Rd.later RP b1
              rw [HGP.out, HUV.out]
              go_wp2_with fail
              refine (FullestSpan_spec L P _ _ _ _ _ RL (fun _ _ => trivial) (by unfold maxLen; omega) RP (by unfold maxLen; omega)).mono ?_
              rintro e z4 ⟨rfl, b1⟩
              have BJ := below_step BJ b1 (Nat.le_refl _); replace RL := Rd.later RL b1; replace RP := Rd.later RP b1
              rw [HGP.out, HFV.out]
              obtain ⟨bP, oP, rfl, _, hcP⟩ := rd_int RP (by intro h; subst h; simp at hkf)
              have yf := hcP kf nf HGF.out
              have hkfI : (kf : Int) < (P.length : Int) := by omega
              have hPs := hide (vSum_any P (some ⟨bP, oP, none⟩) cP z4 (by unfold maxLen; omega) RP (fun k hk => by have := HBD.out k; omega))
              generalize hS : P.sum = S at *
              have HS := hide hS; clear hS hcP
              have hm0 : 0 ≤ nf * (P.length : Int) ∧ nf * (P.length : Int) ≤ 60 * 6 := by rw [Int.mul_comm]; exact (by have := mul_bd2 (a := (P.length : Int)) (b := nf) (m := 6) (n := 60) (by omega) (by omega) hn0 hn1; omega)
              obtain ⟨hm0, hm1⟩ := hm0
              go_wp2_with (go_at_call 52; refine hPs.out.mono ?_; rintro e z5 ⟨rfl, rfl⟩)
              go_ret
              exact ⟨by first | rfl | (refine ret_bool ?_; simp; omega), BJ⟩
      · have ht1 : (t0 != x) = true := by simpa using ht
        have ht2 : (t0 != x + 1) = false := by simp; omega
        go_wp2_with fail
        go_loopw [14] (fun i wr => ∃ j : Nat, j ≤ C.length ∧ i = .int .i64 j ∧ Below w4.heap.size w4 wr) (fun i _ => C.length - (intOf i).toNat)
        case atStart => exact ⟨0, Nat.zero_le _, rfl, Below.refl _ _⟩
        case round =>
          obtain ⟨j, hj, rfl, hbel⟩ := hrel
          have BJ : Below w.heap.size w wr := below_step B4 hbel (Nat.le_refl _)
          by_cases hlt : j < C.length
          · have hgj := List.getElem?_eq_getElem hlt
            have RLj := Rd.later RL hbel; have RCj := Rd.later RC hbel; have RPj := Rd.later RP hbel
            obtain ⟨bC', oC', hA', _, hcj⟩ := Crew.rd_at RCj (by intro h; subst h; simp at hlt)
            cases hA'
            have yj := (hcj j _ hgj).1
            have hlj : (j : Int) < (C.length : Int) := by omega
            have haj := askS_of HNB.out hgj
            have hle := HALL.out j _ hgj
            generalize C[j] = cj at *
            rw [HV0.out] at hle
            have hvj : ∃ vj : Int, spanV L C P j cj.support x = vj := ⟨_, rfl⟩
            obtain ⟨vj, hvj⟩ := hvj; rw [hvj] at hle; have HVJ := hide hvj; have HAJ := hide haj; clear hvj haj hcj hgj
            have hnl : ¬ vj < v0 := by omega
            go_wp2_with fail
            refine (SpanTime_any L C P _ _ _ _ _ _ (j : Int) cj.support x _ RLj (fun _ _ => trivial) (by unfold maxLen; omega) RCj (by unfold maxLen; omega) RPj (by unfold maxLen; omega)).mono ?_
            rintro e wz ⟨rfl, bz⟩
            rw [HAJ.out, HVJ.out]
            go_wp2_with fail
            go_roundw
            case rel => exact ⟨j + 1, by omega, by go_num, below_step hbel bz (Nat.le_refl _)⟩
            case measure => simp [intOf] <;> omega
          · obtain rfl : j = C.length := by omega
            clear RL RC RP
            have hcj := hc.later BJ
            go_wp2_with fail
            refine (DrawSpanTime_any A Lc cap _ hcj).mono ?_
            rintro e z1 ⟨AL, nL, cL, L, AC, nC, cC, C, AP, nP, cP, P, x, y, q, rfl, rfl, zL, RL, rfl, zC, RC, rfl, zP, RP, b1⟩
            have BJ := below_step BJ b1 (Nat.le_refl _)
            go_wp2_with fail
            refine (SpanTime_any L C P _ _ _ _ _ _ x y q _ RL (fun _ _ => trivial) (by unfold maxLen; omega) RC (by unfold maxLen; omega) RP (by unfold maxLen; omega)).mono ?_
            rintro e z2 ⟨rfl, b1⟩
            have BJ := below_step BJ b1 (Nat.le_refl _); replace RL := Rd.later RL b1; replace RC := Rd.later RC b1; replace RP := Rd.later RP b1
            go_wp2_with fail
            refine (SpanTime_spec L C P _ _ _ _ _ _ x y q _ RL (fun _ _ => trivial) (by unfold maxLen; omega) RC (by unfold maxLen; omega) RP (by unfold maxLen; omega)).mono ?_
            rintro e z2 ⟨rfl, b1⟩
            have BJ := below_step BJ b1 (Nat.le_refl _); replace RL := Rd.later RL b1; replace RC := Rd.later RC b1; replace RP := Rd.later RP b1
            clear RL RC RP zL zC zP hcj
            have hcj := hc.later BJ
            go_wp2_with fail
            refine (DrawPeopleUp_any A Lc cap _ hcj).mono ?_
            rintro e z3 ⟨AL, nL, cL, L, AP, nP, cP, P, rfl, rfl, zL, RL, rfl, zP, RP, b1⟩
            have BJ := below_step BJ b1 (Nat.le_refl _)
            cases hgp : goodP L P
            · have HGP := hide hgp
              clear hgp
              go_wp2_with fail
              refine (PeopleUp_any L P _ _ _ _ _ RL (fun _ _ => trivial) (by unfold maxLen; omega) RP (by unfold maxLen; omega)).mono ?_
              rintro e z4 ⟨rfl, b1⟩
              have BJ := below_step BJ b1 (Nat.le_refl _); replace RL := Rd.later RL b1; replace RP := Rd.later RP b1
              rw [HGP.out]
              go_wp2_with fail
              refine (FullestSpan_any L P _ _ _ _ _ RL (fun _ _ => trivial) (by unfold maxLen; omega) RP (by unfold maxLen; omega)).mono ?_
              rintro e z4 ⟨rfl, b1⟩
              have BJ := below_step BJ b1 (Nat.le_refl _); replace RL := Rd.later RL b1; replace RP := Rd.later RP b1
              rw [HGP.out]
              go_wp2_with fail
              refine (PeopleUp_spec L P _ _ _ _ _ RL (fun _ _ => trivial) (by unfold maxLen; omega) RP (by unfold maxLen; omega)).mono ?_
              rintro e z4 ⟨rfl, b1⟩
              have BJ := below_step BJ b1 (Nat.le_refl _); replace RL := Rd.later RL b1; replace RP := Rd.later RP b1
              rw [HGP.out]
              go_wp2_with fail
              refine (FullestSpan_spec L P _ _ _ _ _ RL (fun _ _ => trivial) (by unfold maxLen; omega) RP (by unfold maxLen; omega)).mono ?_
              rintro e z4 ⟨rfl, b1⟩
              have BJ := below_step BJ b1 (Nat.le_refl _); replace RL := Rd.later RL b1; replace RP := Rd.later RP b1
              rw [HGP.out]
              go_wp2_with fail
              go_ret
              exact ⟨rfl, BJ⟩
            · have HGP := hide hgp
              obtain ⟨kf, nf, hfv, hgf, huv, hn0, hn1, hsm⟩ := full_all hgp
              have hbd := sum_bd hgp; have hbn := hbd P.length; rw [List.take_length] at hbn
              have hpl := goodP_len hgp
              have HFV := hide hfv; have HUV := hide huv; have HBD := hide hbd; have hkf := (List.getElem?_eq_some_iff.1 hgf).1; have HGF := hide hgf
              clear hfv huv hbd hgf
              clear hgp
              go_wp2_with fail
              refine (PeopleUp_any L P _ _ _ _ _ RL (fun _ _ => trivial) (by unfold maxLen; omega) RP (by unfold maxLen; omega)).mono ?_
              rintro e z4 ⟨rfl, b1⟩
              have BJ := below_step BJ b1 (Nat.le_refl _); replace RL := Rd.later RL b1; replace RP := Rd.later RP b1
              rw [HGP.out, HUV.out]
              go_wp2_with fail
              refine (FullestSpan_any L P _ _ _ _ _ RL (fun _ _ => trivial) (by unfold maxLen; omega) RP (by unfold maxLen; omega)).mono ?_
              rintro e z4 ⟨rfl, b1⟩
              have BJ := below_step BJ b1 (Nat.le_refl _); replace RL := Rd.later RL b1; replace RP := Rd.later RP b1
              rw [HGP.out, HFV.out]
              go_wp2_with fail
              refine (PeopleUp_spec L P _ _ _ _ _ RL (fun _ _ => trivial) (by unfold maxLen; omega) RP (by unfold maxLen; omega)).mono ?_
              rintro e z4 ⟨rfl, b1⟩
              have BJ := below_step BJ b1 (Nat.le_refl _); replace RL := Rd.later RL b1; replace RP := Rd.later RP b1
              rw [HGP.out, HUV.out]
              go_wp2_with fail
              refine (FullestSpan_spec L P _ _ _ _ _ RL (fun _ _ => trivial) (by unfold maxLen; omega) RP (by unfold maxLen; omega)).mono ?_
              rintro e z4 ⟨rfl, b1⟩
              have BJ := below_step BJ b1 (Nat.le_refl _); replace RL := Rd.later RL b1; replace RP := Rd.later RP b1
              rw [HGP.out, HFV.out]
              obtain ⟨bP, oP, rfl, _, hcP⟩ := rd_int RP (by intro h; subst h; simp at hkf)
              have yf := hcP kf nf HGF.out
              have hkfI : (kf : Int) < (P.length : Int) := by omega
              have hPs := hide (vSum_any P (some ⟨bP, oP, none⟩) cP z4 (by unfold maxLen; omega) RP (fun k hk => by have := HBD.out k; omega))
              generalize hS : P.sum = S at *
              have HS := hide hS; clear hS hcP
              have hm0 : 0 ≤ nf * (P.length : Int) ∧ nf * (P.length : Int) ≤ 60 * 6 := by rw [Int.mul_comm]; exact (by have := mul_bd2 (a := (P.length : Int)) (b := nf) (m := 6) (n := 60) (by omega) (by omega) hn0 hn1; omega)
              obtain ⟨hm0, hm1⟩ := hm0
              go_wp2_with (go_at_call 52; refine hPs.out.mono ?_; rintro e z5 ⟨rfl, rfl⟩)
              go_ret
              exact ⟨by first | rfl | (refine ret_bool ?_; simp; omega), BJ⟩
open Go.ChangeShapes Go.WideShapes Go.ChangeAt Go.RowKit
theorem elB {H : Type} {enc : TypeId × Value → H} {w : World} {base : Nat} {spare : Nat → Bool} {held : Bool} (n : Nat) (cs : List Value) (y : DataW H × List MemPlace) (h : DataW.trod enc Try.prog w base spare held n 5 cs = some y) : ∃ c : Int, cs = encB c ∧ 0 ≤ c ∧ c < 256 := by
  obtain ⟨k, hk, _, hw⟩ := DataW.trod_int Try.underlying5 h
  have hw2 : 0 ≤ k ∧ k ≤ 255 := by simpa [Lit.wf, IntKind.min, IntKind.max, IntKind.bits, IntKind.signed] using hw
  exact ⟨k, hk, by omega, by omega⟩
set_option maxRecDepth 100000 in
theorem lifted (os : Os) (started : os.Started) (H : Type) (enc : TypeId × Value → H) :
    ReturnsInHanded {} Try.checked os 12 .any (Rows.fnRescuesSpec.pre6 enc Try.prog Try.f12 Rows.fnRescuesRow.domain false) (Rows.fnRescuesSpec.post enc Try.prog Try.f12 false true false false) := by
  refine returnsInHanded_of_change (C := Try.checked) own started (by kernel_rfl) Try.func12
    (ChangeSpec.witness6 (enc := enc) (C := Try.checked) false ⟨#[], #[.slice none 0 0], []⟩ 8 (by kernel_rfl) (by kernel_rfl) (by kernel_rfl) (by kernel_rfl)) ?_
  intro W base args ds gs before hval0 hW hcnd _
  have hval : ∀ (j : Nat) t v, Try.f12.params[j]? = some t → args[j]? = some v → Value.okWide Try.prog W .any base t v := hval0
  have hW' := hW
  obtain ⟨p, q, hA0, hV, rfl, hfz, hnd⟩ := hW
  have hA : DataW.TrodAll enc Try.prog W 0 (fun _ => true) true Try.f12.params.toList args.toList ds p := hA0
  rw [Try.params12] at hA hval
  obtain ⟨v0, vs0, d0, ds0, p0, q0, hargs, rfl, rfl, h0, e0⟩ := trodAll_cons hA
  obtain ⟨rfl, rfl, rfl⟩ := trodAll_nil e0
  obtain rfl : args = #[v0] := by cases args; simp_all
  obtain ⟨rfl, rfl⟩ := trodVars_none hV
  have k0 := h0
  have lt0 : ∀ x ∈ p0, x.block < W.heap.size := by obtain ⟨m, hm⟩ := k0; exact DataW.trod_lt m _ _ _ hm
  obtain ⟨A0, len0, c0, rfl⟩ := okWide_slice Try.underlying22 (hval 0 22 v0 rfl rfl)
  obtain ⟨fu0, hf0⟩ := h0
  obtain ⟨L0, rfl, r0, g0, l0⟩ := open_list (encα := encB) (m := 1) (Good := fun c => 0 ≤ c ∧ c < 256) Try.underlying22 (by kernel_rfl) (by decide) encB_len elB hf0
  clear hA0 hval0
  refine (walk L0 A0 c0 W ⟨l0, g0, r0⟩).mono fun e W' ⟨he, bel⟩ => ?_
  subst he
  exact ⟨_, rfl, _, _, _, [], _, [], hW', trodAll_mk1 (shut_bool Try.underlying4 _), (trodAll_cons_mk (Below.trod laidOut (by kernel_rfl) (of_decide_eq_true (by kernel_rfl)) k0 bel lt0) trodAll_mk0), rfl, bel.frame _, fun h => by cases h⟩
theorem over : Rows.fnRescuesRow.holds Try.pinned (OpenSpec.ofChange Rows.fnRescuesSpec) :=
  OpenClaim.holds_of_wide 12 Try.f12 rfl rfl rfl rfl rfl rfl rfl ⟨rfl, rfl, rfl, rfl, rfl⟩ rfl rfl rfl rfl rfl (by kernel_rfl) Try.func12 (by kernel_rfl)
    (of_decide_eq_true (by kernel_rfl)) (by unfold Func.isWrapper; first | (rw [if_pos (by decide +kernel)]; kernel_rfl) | (rw [if_neg (by decide +kernel)]; exact ⟨rfl, rfl⟩))
    (fun os started H enc _ => lifted os started H enc)
theorem proved : Rows.FnRescuesSaid := over
#print axioms proved
end Go.Proofs.Ytgfamaopplgfgaa.lawRescues
