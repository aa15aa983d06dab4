/- The law FnEvacuations: for every input its call returns true and changes nothing that was there. The best assignment takes the least time and no crew more; times, idle crews and crew times are as the reference tells. No condition. -/
import Derived.Test.YtgfamaopplgfgaaEvs
import Derived.Test.YtgfamaopplgfgaaOpen
import Derived.Deep.DeepCutAuto
namespace Go.Proofs.Ytgfamaopplgfgaa.lawEvacuations
open Go Go.RowKit
set_option linter.unusedVariables false
set_option maxRecDepth 100000 in
set_option maxHeartbeats 8000000 in
theorem walk (Lc : List Int) (A : Option Addr) (cap : Nat) (w : World) (hc : CodeIs w A Lc) :
    Calls Try.prog 3 #[.slice A Lc.length cap] w fun e w' => e = .returned (.bool true) ∧ Below w.heap.size w w' := by
  have hl := hc.1
  by_cases hbig : (65536 : Int) < (Lc.length : Int)
  · have hd : decide ((65536 : Int) < (Lc.length : Int)) = true := by simpa using hbig
    go_enter Try.func3, Try.ntmps3
    go_wp2_with fail
    refine (vBig_any _ A cap w hl).mono ?_
    rintro e w1 ⟨rfl, rfl⟩
    rw [hd]; clear hd hbig
    go_wp2_with fail
    go_ret
    exact ⟨rfl, Below.refl _ _⟩
  have hd : decide ((65536 : Int) < (Lc.length : Int)) = false := by simpa using hbig
  go_enter Try.func3, Try.ntmps3
  go_wp2_with fail
  refine (vBig_any _ A cap w hl).mono ?_
  rintro e wj ⟨rfl, rfl⟩
  rw [hd]; clear hd hbig
  have BJ : Below w.heap.size w w := Below.refl _ _
  obtain ⟨wj, hwj⟩ : ∃ wj, wj = w := ⟨_, rfl⟩
  have hcj : CodeIs wj A Lc := hwj ▸ hc
  have BJ : Below w.heap.size w wj := hwj ▸ BJ
  go_wp2_with fail
  rw [← hwj]; clear hwj
  refine (DrawBestEvacuation_any A Lc cap _ hcj).mono ?_
  rintro e wj ⟨AL, nL, cL, L, AC, nC, cC, C, AP, nP, cP, P, rfl, rfl, zL, RL, rfl, zC, RC, rfl, zP, RP, b1⟩
  have BJ := below_step BJ b1 (Nat.le_refl _); have hcj := hcj.later b1; clear b1
  have hbl := bestL_len L C P
  have hba : bestB L C P = true → _ := fun h => best_all (L := L) (C := C) (P := P) h
  have hcl : bestB L C P = true → 1 ≤ P.length ∧ P.length ≤ 6 ∧ C.length ≤ 3 := fun h => by have := goodR_len (L := L) (C := C) (P := P) h; omega
  obtain ⟨D, hD⟩ : ∃ D, D = bestL L C P := ⟨_, rfl⟩
  obtain ⟨t, ht⟩ : ∃ t, t = bestT L C P := ⟨_, rfl⟩
  obtain ⟨gb, hgb⟩ : ∃ gb, gb = bestB L C P := ⟨_, rfl⟩
  obtain ⟨cb, hcb⟩ : ∃ cb, cb = crewsB L C := ⟨_, rfl⟩
  rw [← hD] at hbl; rw [← hD, ← ht, ← hgb] at hba; rw [← hgb] at hcl
  have HD := hide hD; have HT := hide ht; have HGB := hide hgb; have HCB := hide hcb; have HBA := hide hba; have HCL := hide hcl; clear hD ht hgb hcb hba hcl
  go_wp2_with fail
  refine (BestEvacuation_any L C P _ _ _ _ _ _ _ RL (fun _ _ => trivial) (by unfold maxLen; omega) RC (by unfold maxLen; omega) RP (by unfold maxLen; omega)).mono ?_
  rintro e wj ⟨Ab, cb, rfl, hob, b1⟩
  have BJ := below_step BJ b1 (Nat.le_refl _); have hcj := hcj.later b1; replace RL := Rd.later RL b1; replace RC := Rd.later RC b1; replace RP := Rd.later RP b1
  have Rb := Own.rd_of encI_len hob; clear hob b1
  rw [← HD.out, ← HT.out, ← HGB.out]; rw [← HD.out] at Rb
  go_wp2_with fail
  refine (BestEvacuation_spec L C P _ _ _ _ _ _ _ RL (fun _ _ => trivial) (by unfold maxLen; omega) RC (by unfold maxLen; omega) RP (by unfold maxLen; omega)).mono ?_
  rintro e wj ⟨Ac, cc, rfl, hoc, b1⟩
  have BJ := below_step BJ b1 (Nat.le_refl _); have hcj := hcj.later b1; replace RL := Rd.later RL b1; replace RC := Rd.later RC b1; replace RP := Rd.later RP b1; replace Rb := Rd.later Rb b1
  have Rc := Own.rd_of encI_len hoc; clear hoc b1
  rw [← HD.out, ← HT.out, ← HGB.out]; rw [← HD.out] at Rc
  go_upto_if 90 with (first | (go_at_call 18; refine (vInts_same D D.length rfl _ _ _ _ _ (by omega) Rb Rc).mono ?_; rintro e wj ⟨rfl, b1⟩; have BJ := below_step BJ b1 (Nat.le_refl _); have hcj := hcj.later b1; replace RL := Rd.later RL b1; replace RC := Rd.later RC b1; replace RP := Rd.later RP b1; replace Rb := Rd.later Rb b1; clear Rc b1) | (go_at_call 19; refine (AreCrews_any L C _ _ _ _ _ RL (fun _ _ => trivial) (by unfold maxLen; omega) RC (by unfold maxLen; omega)).mono ?_; rintro e wj ⟨rfl, b1⟩; have BJ := below_step BJ b1 (Nat.le_refl _); have hcj := hcj.later b1; replace RL := Rd.later RL b1; replace RC := Rd.later RC b1; replace RP := Rd.later RP b1; replace Rb := Rd.later Rb b1; rw [← HCB.out]; clear b1) | (go_at_call 20; refine (AreCrews_spec L C _ _ _ _ _ RL (fun _ _ => trivial) (by unfold maxLen; omega) RC (by unfold maxLen; omega)).mono ?_; rintro e wj ⟨rfl, b1⟩; have BJ := below_step BJ b1 (Nat.le_refl _); have hcj := hcj.later b1; replace RL := Rd.later RL b1; replace RC := Rd.later RC b1; replace RP := Rd.later RP b1; replace Rb := Rd.later Rb b1; rw [← HCB.out]; clear b1))
  go_cut [12, 13, 14, 15, 16, 17, 18] (fun _ _ _ _ _ _ _ wx => Below w.heap.size w wx)
  case first =>
    as_aux_lemma =>
      cases gb
      · go_wp2_with fail
        go_meet
        exact BJ
      · obtain ⟨g1, g2, g3, g4, g5⟩ := HBA.out rfl
        obtain ⟨p1, p6, c3⟩ := HCL.out rfl
        obtain ⟨f, hf⟩ : ∃ f, f = timeV L C P (List.replicate P.length 0) := ⟨_, rfl⟩
        rw [← hf] at g4
        have G1 := hide g1; have G2 := hide g2; have G3 := hide g3; have G5 := hide g5; have HF := hide hf.symm; clear g1 g2 g3 g5 hf HBA HCL
        go_wp2_with fail
        refine (evt_n L C P D rfl G1.out G2.out _ _ _ _ _ _ _ _ _ RL (fun _ _ => trivial) (by unfold maxLen; omega) RC (by unfold maxLen; omega) RP (by unfold maxLen; omega) Rb (by unfold maxLen; omega)).mono ?_
        rintro e wj ⟨rfl, b1⟩
        have BJ := below_step BJ b1 (Nat.le_refl _); have hcj := hcj.later b1; replace RL := Rd.later RL b1; replace RC := Rd.later RC b1; replace RP := Rd.later RP b1; replace Rb := Rd.later Rb b1
        clear b1
        have hmk := hmk_int P.length (by omega)
        have hbz : Below wj.heap.size wj (wj.alloc (.cells (madeCells #[.int .i64 0] P.length) 3)) := (Below.refl _ _).alloc (Nat.le_refl _) _
        have Rz := Own.rd_of encI_len (own_zeros (T := 3) (n := P.length) (w := wj) (Nat.zero_le _) (by unfold maxLen; omega))
        replace RL := Rd.later RL hbz; replace RC := Rd.later RC hbz; replace RP := Rd.later RP hbz; replace Rb := Rd.later Rb hbz; have BJ := below_step BJ hbz (Nat.le_refl _); have hcj := hcj.later hbz
        go_wp2_with fail
        refine (evt_n L C P (List.replicate P.length 0) (List.length_replicate ..) G3.out HF.out _ _ _ _ _ _ _ _ _ RL (fun _ _ => trivial) (by unfold maxLen; omega) RC (by unfold maxLen; omega) RP (by unfold maxLen; omega) Rz (by rw [List.length_replicate]; unfold maxLen; omega)).mono ?_
        rintro e wj ⟨rfl, b1⟩
        have BJ := below_step BJ b1 (Nat.le_refl _); have hcj := hcj.later b1; replace RL := Rd.later RL b1; replace RC := Rd.later RC b1; replace RP := Rd.later RP b1; replace Rb := Rd.later Rb b1
        clear b1 Rz hbz hmk
        have hft : ¬ f < t := by omega
        go_wp2_with fail
        go_loopw [16] (fun i wr => ∃ j : Nat, j ≤ C.length ∧ i = .int .i64 j ∧ Below wj.heap.size wj wr) (fun i _ => C.length - (intOf i).toNat)
        case atStart => exact ⟨0, Nat.zero_le _, rfl, Below.refl _ _⟩
        case round =>
          obtain ⟨j, hj, rfl, hbel⟩ := hrel
          have BK := below_step BJ hbel (Nat.le_refl _)
          by_cases hlt : j < C.length
          · have hji : (j : Int) < (C.length : Int) := by omega
            obtain ⟨h1, h2⟩ := G5.out j hlt
            obtain ⟨v, hv⟩ : ∃ v, v = cttV L C P D (j : Int) := ⟨_, rfl⟩
            rw [← hv] at h2; have HV := hide hv; have H1 := hide h1; clear hv h1
            have hnl : ¬ t < v := by omega
            have RLk := Rd.later RL hbel; have RCk := Rd.later RC hbel; have RPk := Rd.later RP hbel; have Rbk := Rd.later Rb hbel
            go_wp2_with fail
            refine (CrewTime_any L C P D _ _ _ _ _ _ _ _ (j : Int) _ RLk (fun _ _ => trivial) (by unfold maxLen; omega) RCk (by unfold maxLen; omega) RPk (by unfold maxLen; omega) Rbk (by unfold maxLen; omega)).mono ?_
            rintro e wz ⟨rfl, bz⟩
            rw [H1.out, ← HV.out]
            go_wp2_with fail
            go_roundw
            case rel => exact ⟨j + 1, by omega, by go_num, below_step hbel bz (Nat.le_refl _)⟩
            case measure => simp [intOf] <;> omega
          · obtain rfl : j = C.length := by omega
            go_wp2_with fail
            go_meet
            exact BK
  clear RL RC RP Rb hcj BJ HD HT HGB HCB HBA HCL hbl zL zC zP
  have BJ := hcut; clear hcut
  as_aux_lemma =>
  have hcj := hc.later BJ
  go_wp2_with fail
  refine (DrawEvacuationTime_any A Lc cap _ hcj).mono ?_
  rintro e wj ⟨AL, nL, cL, L, AC, nC, cC, C, AP, nP, cP, P, AS, nS, cS, S, rfl, rfl, zL, RL, rfl, zC, RC, rfl, zP, RP, rfl, zS, RS, b1⟩
  have BJ := below_step BJ b1 (Nat.le_refl _); have hcj := hcj.later b1; clear b1
  have hil := idleV_len L C P S; have hia := idle_all (L := L) (C := C) (P := P) (S := S)
  obtain ⟨tv, htv⟩ : ∃ tv, tv = timeV L C P S := ⟨_, rfl⟩
  obtain ⟨ab, hab⟩ : ∃ ab, ab = asB L C P S := ⟨_, rfl⟩
  obtain ⟨U, hU⟩ : ∃ U, U = idleV L C P S := ⟨_, rfl⟩
  rw [← hU] at hil hia; have HTV := hide htv; have HAB := hide hab; have HU := hide hU; have HIA := hide hia; clear htv hab hU hia
  go_wp2_with fail
  refine (EvacuationTime_any L C P S _ _ _ _ _ _ _ _ _ RL (fun _ _ => trivial) (by unfold maxLen; omega) RC (by unfold maxLen; omega) RP (by unfold maxLen; omega) RS (by unfold maxLen; omega)).mono ?_
  rintro e wj ⟨rfl, b1⟩
  have BJ := below_step BJ b1 (Nat.le_refl _); have hcj := hcj.later b1; replace RL := Rd.later RL b1; replace RC := Rd.later RC b1; replace RP := Rd.later RP b1; replace RS := Rd.later RS b1
  clear b1
  rw [← HTV.out, ← HAB.out]
  go_wp2_with fail
  refine (EvacuationTime_spec L C P S _ _ _ _ _ _ _ _ _ RL (fun _ _ => trivial) (by unfold maxLen; omega) RC (by unfold maxLen; omega) RP (by unfold maxLen; omega) RS (by unfold maxLen; omega)).mono ?_
  rintro e wj ⟨rfl, b1⟩
  have BJ := below_step BJ b1 (Nat.le_refl _); have hcj := hcj.later b1; replace RL := Rd.later RL b1; replace RC := Rd.later RC b1; replace RP := Rd.later RP b1; replace RS := Rd.later RS b1
  clear b1
  rw [← HTV.out, ← HAB.out]
  go_wp2_with fail
  refine (IdleCrews_any L C P S _ _ _ _ _ _ _ _ _ RL (fun _ _ => trivial) (by unfold maxLen; omega) RC (by unfold maxLen; omega) RP (by unfold maxLen; omega) RS (by unfold maxLen; omega)).mono ?_
  rintro e wj ⟨Au, cu, rfl, hou, b1⟩
  have BJ := below_step BJ b1 (Nat.le_refl _); have hcj := hcj.later b1; replace RL := Rd.later RL b1; replace RC := Rd.later RC b1; replace RP := Rd.later RP b1; replace RS := Rd.later RS b1
  have Ru := Own.rd_of encI_len hou; clear hou b1
  rw [← HU.out, ← HAB.out]; rw [← HU.out] at Ru
  go_wp2_with fail
  refine (IdleCrews_spec L C P S _ _ _ _ _ _ _ _ _ RL (fun _ _ => trivial) (by unfold maxLen; omega) RC (by unfold maxLen; omega) RP (by unfold maxLen; omega) RS (by unfold maxLen; omega)).mono ?_
  rintro e wj ⟨Av, cv, rfl, hov, b1⟩
  have BJ := below_step BJ b1 (Nat.le_refl _); have hcj := hcj.later b1; replace RL := Rd.later RL b1; replace RC := Rd.later RC b1; replace RP := Rd.later RP b1; replace RS := Rd.later RS b1; replace Ru := Rd.later Ru b1
  have Rv := Own.rd_of encI_len hov; clear hov b1
  rw [← HU.out, ← HAB.out]; rw [← HU.out] at Rv
  go_wp2_with fail
  refine (vInts_same U U.length rfl _ _ _ _ _ (by omega) Ru Rv).mono ?_
  rintro e wj ⟨rfl, b1⟩
  have BJ := below_step BJ b1 (Nat.le_refl _); have hcj := hcj.later b1; replace RL := Rd.later RL b1; replace RC := Rd.later RC b1; replace RP := Rd.later RP b1; replace RS := Rd.later RS b1; replace Ru := Rd.later Ru b1
  clear b1 Rv
  go_wp2_with fail
  go_loopw [31] (fun i wr => ∃ j : Nat, j ≤ U.length ∧ i = .int .i64 j ∧ Below wj.heap.size wj wr) (fun i _ => U.length - (intOf i).toNat)
  case atStart => exact ⟨0, Nat.zero_le _, rfl, Below.refl _ _⟩
  case round =>
    obtain ⟨j, hj, rfl, hbel⟩ := hrel
    have BK := below_step BJ hbel (Nat.le_refl _)
    by_cases hlt : j < U.length
    · have hji : (j : Int) < (U.length : Int) := by omega
      have RLk := Rd.later RL hbel; have RCk := Rd.later RC hbel; have RPk := Rd.later RP hbel; have RSk := Rd.later RS hbel; have Ruk := Rd.later Ru hbel
      obtain ⟨bU, oU, hAU, _, hcU⟩ := rd_int Ruk (by intro h; subst h; simp at hlt)
      subst hAU
      have hgj := List.getElem?_eq_getElem hlt
      have yj := hcU j _ hgj
      obtain ⟨h1, h2⟩ := HIA.out _ (List.getElem_mem hlt)
      generalize U[j] = x at *
      have H1 := hide h1; have H2 := hide h2; clear h1 h2 hgj hcU
      go_wp2_with fail
      refine (CrewTime_any L C P S _ _ _ _ _ _ _ _ x _ RLk (fun _ _ => trivial) (by unfold maxLen; omega) RCk (by unfold maxLen; omega) RPk (by unfold maxLen; omega) RSk (by unfold maxLen; omega)).mono ?_
      rintro e wz ⟨rfl, bz⟩
      rw [H1.out, H2.out]
      go_wp2_with fail
      go_roundw
      case rel => exact ⟨j + 1, by omega, by go_num, below_step hbel bz (Nat.le_refl _)⟩
      case measure => simp [intOf] <;> omega
    · obtain rfl : j = U.length := by omega
      clear RL RC RP RS Ru hcj zL zC zP zS HTV HAB HU HIA
      have hcj := hc.later BK
      go_wp2_with fail
      refine (DrawCrewTime_any A Lc cap _ hcj).mono ?_
      rintro e wj ⟨AL, nL, cL, L, AC, nC, cC, C, AP, nP, cP, P, AS, nS, cS, S, x, rfl, rfl, zL, RL, rfl, zC, RC, rfl, zP, RP, rfl, zS, RS, b1⟩
      have BJ := below_step BK b1 (Nat.le_refl _); have hcj := hcj.later b1; clear b1
      obtain ⟨cv, hcv⟩ : ∃ cv, cv = cttV L C P S x := ⟨_, rfl⟩
      obtain ⟨kb, hkb⟩ : ∃ kb, kb = cttB L C P S x := ⟨_, rfl⟩
      have HCV := hide hcv; have HKB := hide hkb; clear hcv hkb
      go_wp2_with fail
      refine (CrewTime_any L C P S _ _ _ _ _ _ _ _ x _ RL (fun _ _ => trivial) (by unfold maxLen; omega) RC (by unfold maxLen; omega) RP (by unfold maxLen; omega) RS (by unfold maxLen; omega)).mono ?_
      rintro e wj ⟨rfl, b1⟩
      have BJ := below_step BJ b1 (Nat.le_refl _); have hcj := hcj.later b1; replace RL := Rd.later RL b1; replace RC := Rd.later RC b1; replace RP := Rd.later RP b1; replace RS := Rd.later RS b1
      clear b1
      rw [← HCV.out, ← HKB.out]
      go_wp2_with fail
      refine (CrewTime_spec L C P S _ _ _ _ _ _ _ _ x _ RL (fun _ _ => trivial) (by unfold maxLen; omega) RC (by unfold maxLen; omega) RP (by unfold maxLen; omega) RS (by unfold maxLen; omega)).mono ?_
      rintro e wj ⟨rfl, b1⟩
      have BJ := below_step BJ b1 (Nat.le_refl _); have hcj := hcj.later b1; replace RL := Rd.later RL b1; replace RC := Rd.later RC b1; replace RP := Rd.later RP b1; replace RS := Rd.later RS b1
      clear b1
      rw [← HCV.out, ← HKB.out]
      go_wp2_with fail
      go_ret
      exact ⟨by first | rfl | (refine ret_bool ?_; simp), BJ⟩
open Go.ChangeShapes Go.WideShapes Go.ChangeAt Go.RowKit
theorem elU8 {H : Type} {enc : TypeId × Value → H} {w : World} {base : Nat} {spare : Nat → Bool} {held : Bool} (n : Nat) (cs : List Value) (y : DataW H × List MemPlace) (h : DataW.trod enc Try.prog w base spare held n 5 cs = some y) : ∃ c : Int, cs = encU8 c ∧ 0 ≤ c ∧ c < 256 := by
  obtain ⟨k, hk, _, hw⟩ := DataW.trod_int Try.underlying5 h
  have hw2 : 0 ≤ k ∧ k ≤ 255 := by simpa [Lit.wf, IntKind.min, IntKind.max, IntKind.bits, IntKind.signed] using hw
  exact ⟨k, hk, by omega, by omega⟩
set_option maxRecDepth 100000 in
theorem lifted (os : Os) (started : os.Started) (H : Type) (enc : TypeId × Value → H) :
    ReturnsInHanded {} Try.checked os 3 .any (Rows.fnEvacuationsSpec.pre6 enc Try.prog Try.f3 Rows.fnEvacuationsRow.domain false) (Rows.fnEvacuationsSpec.post enc Try.prog Try.f3 false true false false) := by
  refine returnsInHanded_of_change (C := Try.checked) own started (by kernel_rfl) Try.func3
    (ChangeSpec.witness6 (enc := enc) (C := Try.checked) false ⟨#[], #[.slice none 0 0], []⟩ 8 (by kernel_rfl) (by kernel_rfl) (by kernel_rfl) (by kernel_rfl)) ?_
  intro W base args ds gs before hval0 hW hcnd _
  have hval : ∀ (j : Nat) t v, Try.f3.params[j]? = some t → args[j]? = some v → Value.okWide Try.prog W .any base t v := hval0
  have hW' := hW
  obtain ⟨p, q, hA0, hV, rfl, hfz, hnd⟩ := hW
  have hA : DataW.TrodAll enc Try.prog W 0 (fun _ => true) true Try.f3.params.toList args.toList ds p := hA0
  rw [Try.params3] at hA hval
  obtain ⟨v0, vs0, d0, ds0, p0, q0, hargs, rfl, rfl, h0, e0⟩ := trodAll_cons hA
  obtain ⟨rfl, rfl, rfl⟩ := trodAll_nil e0
  obtain rfl : args = #[v0] := by cases args; simp_all
  obtain ⟨rfl, rfl⟩ := trodVars_none hV
  have k0 := h0
  have lt0 : ∀ x ∈ p0, x.block < W.heap.size := by obtain ⟨m, hm⟩ := k0; exact DataW.trod_lt m _ _ _ hm
  obtain ⟨A0, len0, c0, rfl⟩ := okWide_slice Try.underlying22 (hval 0 22 v0 rfl rfl)
  obtain ⟨fu0, hf0⟩ := h0
  obtain ⟨L0, rfl, r0, g0, l0⟩ := open_list (encα := encU8) (m := 1) (Good := fun c => 0 ≤ c ∧ c < 256) Try.underlying22 (by kernel_rfl) (by decide) encU8_len elU8 hf0
  clear hA0 hval0
  refine (walk L0 A0 c0 W ⟨l0, g0, r0⟩).mono fun e W' ⟨he, bel⟩ => ?_
  subst he
  exact ⟨_, rfl, _, _, _, [], _, [], hW', trodAll_mk1 (shut_bool Try.underlying4 _), (trodAll_cons_mk (Below.trod laidOut (by kernel_rfl) (of_decide_eq_true (by kernel_rfl)) k0 bel lt0) trodAll_mk0), rfl, bel.frame _, fun h => by cases h⟩
theorem over : Rows.fnEvacuationsRow.holds Try.pinned (OpenSpec.ofChange Rows.fnEvacuationsSpec) :=
  OpenClaim.holds_of_wide 3 Try.f3 rfl rfl rfl rfl rfl rfl rfl ⟨rfl, rfl, rfl, rfl, rfl⟩ rfl rfl rfl rfl rfl (by kernel_rfl) Try.func3 (by kernel_rfl)
    (of_decide_eq_true (by kernel_rfl)) (by unfold Func.isWrapper; first | (rw [if_pos (by decide +kernel)]; kernel_rfl) | (rw [if_neg (by decide +kernel)]; exact ⟨rfl, rfl⟩))
    (fun os started H enc _ => lifted os started H enc)
theorem proved : Rows.FnEvacuationsSaid := over
#print axioms proved
end Go.Proofs.Ytgfamaopplgfgaa.lawEvacuations
