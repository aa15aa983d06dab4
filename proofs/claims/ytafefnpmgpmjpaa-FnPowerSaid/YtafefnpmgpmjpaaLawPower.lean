/- The law FnPower: for every input its call returns true and changes nothing that was there. What is served and what is left is the supply, without those that are switched off the rest can be served, loads grow with the rank. No condition. -/
import Derived.Test.YtafefnpmgpmjpaaDrawX18
import Derived.Test.YtafefnpmgpmjpaaPowerP
import Derived.Test.YtafefnpmgpmjpaaToolsT
import Derived.Test.YtafefnpmgpmjpaaEmer
import Derived.Test.YtafefnpmgpmjpaaServeI
import Derived.Test.YtafefnpmgpmjpaaServeF
import Derived.Test.YtafefnpmgpmjpaaOpen
import Derived.Deep.Cut
import Derived.Deep.CutBlock
import Derived.Deep.DeepCutAuto
import Derived.MakeChecks
import Derived.Deep.DeepHandedRow
import Derived.OpenShut
import Derived.ProofKit
namespace Go.Proofs.Ytafefnpmgpmjpaa.lawPower
open Go Go.RowKit
set_option linter.unusedVariables false
set_option linter.unusedSimpArgs false
set_option maxRecDepth 100000 in
set_option maxHeartbeats 8000000 in
theorem walk (Lc : List Int) (A : Option Addr) (cap : Nat) (w : World) (hc : CodeIs w A Lc) :
    Calls Try.prog 7 #[.slice A Lc.length cap] w fun e w' => e = .returned (.bool true) ∧ Below w.heap.size w w' := by
  have hl := hc.1
  by_cases hbig : (65536 : Int) < (Lc.length : Int)
  · have hd : decide ((65536 : Int) < (Lc.length : Int)) = true := by simpa using hbig
    go_enter Try.func7, Try.ntmps7
    go_wp2_with fail
    refine (rBig_any _ A cap w hl).mono ?_
    rintro e w1 ⟨rfl, rfl⟩
    rw [hd]; clear hd hbig
    go_wp2_with fail
    go_ret
    exact ⟨rfl, Below.refl _ _⟩
  have hd : decide ((65536 : Int) < (Lc.length : Int)) = false := by simpa using hbig
  go_enter Try.func7, Try.ntmps7
  go_wp2_with fail
  refine (rBig_any _ A cap w hl).mono ?_
  rintro e wj ⟨rfl, rfl⟩
  rw [hd]; clear hd hbig
  have BJ : Below w.heap.size w w := Below.refl _ _
  obtain ⟨wj, hwj⟩ : ∃ wj, wj = w := ⟨_, rfl⟩
  have hcj : CodeIs wj A Lc := hwj ▸ hc
  have BJ : Below w.heap.size w wj := hwj ▸ BJ
  go_wp2_with fail
  rw [← hwj]; clear hwj
  refine (DrawServedWith_any A Lc cap _ hcj).mono ?_
  rintro e wj ⟨AL, nL, cL, L, s, rfl, hs0, hs1, rfl, zL, hcap, kOk, RL, b1⟩
  have BJ := below_step BJ b1 (Nat.le_refl _); have hcj := hcj.later b1; clear b1
  have hsv := fun (h : servB L s = true) => serv_law h
  have hof := fun (h : servB L s = true) => off_law h
  have hwb := fun (h : servB L s = true) => (show consB L = true by simp only [servB, Bool.and_eq_true] at h; exact h.1)
  have hvl := servV_len L s; have hfl := offV_len L s
  obtain ⟨V, hV⟩ : ∃ V, V = servV L s := ⟨_, rfl⟩
  obtain ⟨T, hT⟩ : ∃ T, T = servT L s := ⟨_, rfl⟩
  obtain ⟨ob, hob⟩ : ∃ ob, ob = servB L s := ⟨_, rfl⟩
  obtain ⟨F, hF⟩ : ∃ F, F = offV L s := ⟨_, rfl⟩
  rw [← hob] at hsv hof hwb; rw [← hV] at hsv hvl; rw [← hT] at hsv; rw [← hF] at hof hfl
  have HV := hide hV; have HT := hide hT; have HOB := hide hob; have HF := hide hF; have HSV := hide hsv; have HOF := hide hof; have HWB := hide hwb; clear hV hT hob hF hsv hof hwb
  go_wp2_with fail
  refine (ServedWith_any L s _ _ _ RL kOk (by unfold maxLen; omega) hcap).mono ?_
  rintro e wj ⟨Av, cv, rfl, hov, b1⟩
  have BJ := below_step BJ b1 (Nat.le_refl _); have hcj := hcj.later b1; replace RL := Rd.later RL b1
  have Rv := Own.rd_of encS_len hov; clear hov b1
  rw [← HV.out, ← HT.out, ← HOB.out]
  rw [← HV.out] at Rv
  go_wp2_with fail
  refine (ServedWith_spec L s _ _ _ RL kOk (by unfold maxLen; omega)).mono ?_
  rintro e wj ⟨Ax, cx, rfl, hox, b1⟩
  have BJ := below_step BJ b1 (Nat.le_refl _); have hcj := hcj.later b1; replace RL := Rd.later RL b1; replace Rv := Rd.later Rv b1
  have Rx := Own.rd_of encS_len hox; clear hox b1
  rw [← HV.out, ← HT.out, ← HOB.out]
  rw [← HV.out] at Rx
  go_wp2_with fail
  refine (rTexts_same V V.length rfl _ _ _ _ _ (by omega) Rv Rx).mono ?_
  rintro e wj ⟨rfl, b1⟩
  have BJ := below_step BJ b1 (Nat.le_refl _); have hcj := hcj.later b1; replace RL := Rd.later RL b1; replace Rv := Rd.later Rv b1
  clear b1 Rx
  go_upto_if 65 with fail
  go_cut [11, 12] (fun _ _ wx => Below wj.heap.size wj wx)
  case first =>
    as_aux_lemma =>
      cases ob
      · go_wp2_with fail
        go_meet
        exact Below.refl _ _
      · obtain ⟨hsum, hno, t0, t1⟩ := HSV.out rfl
        have hcb := HWB.out rfl
        have HSUM := hide hsum; have HNO := hide hno; have HCB := hide hcb; have hl8 := consB_len hcb; clear hsum hno hcb
        go_wp2_with fail
        go_loopw [12, 11] (fun i x wr => ∃ k : Nat, k ≤ L.length ∧ i = .int .i64 k ∧ x = .int .i64 (sumW (fun c => hasT V c.name) (L.take k)) ∧ Below wj.heap.size wj wr) (fun i _ _ => L.length - (intOf i).toNat)
        case atStart => exact ⟨0, Nat.zero_le _, rfl, rfl, Below.refl _ _⟩
        case round =>
          obtain ⟨k, hk, rfl, rfl, hbel⟩ := hrel
          have BK := below_step BJ hbel (Nat.le_refl _)
          obtain ⟨q0, q1⟩ := sumW_bd (p := fun c => hasT V c.name) (O := L.take k) (fun c hc => (cons_in HCB.out (List.mem_of_mem_take hc)).1)
          have hlk : (L.take k).length = k := by rw [List.length_take]; omega
          rw [hlk] at q1; clear hlk
          by_cases hlt : k < L.length
          · have hki : (k : Int) < (L.length : Int) := by omega
            obtain ⟨bL, oL, rfl, _, hcL⟩ := Consumer.rd_at (Rd.later RL hbel) (by intro h; rw [h] at hlt; simp at hlt)
            obtain ⟨c, hc⟩ : ∃ c, L[k]? = some c := ⟨_, List.getElem?_eq_getElem hlt⟩
            obtain ⟨y0, y1, _⟩ := hcL k _ hc
            have hst := sumW_step (p := fun c => hasT V c.name) hc
            obtain ⟨c0, c1⟩ := (cons_in HCB.out (List.mem_of_getElem? hc)).1
            have hnc := HNO.out c (List.mem_of_getElem? hc)
            clear hcL hc
            have HRV := hide (Rd.later Rv hbel)
            generalize sumW (fun c => hasT V c.name) (L.take k) = S at *
            have hw2 : IntKind.i64.wrap (S + c.watts) = S + c.watts := by rw [IntKind.wrap_i64]; omega
            cases hh0 : hasT V c.name
            · have hh := hide hh0
              have HST := hide (show sumW (fun c => hasT V c.name) (L.take (k + 1)) = S by rw [hst]; simp [hh0])
              have hng : ¬ c.watts ≤ T := by have := hnc hh0; omega
              clear hst hnc hh0
              go_wp2_with (go_at_call 39; refine (rHasText_is hh.out _ _ _ (by omega) HRV.out).mono ?_; rintro e w' ⟨rfl, rfl⟩)
              go_roundw
              case rel => exact ⟨k + 1, by omega, by go_num, by rw [HST.out], hbel⟩
              case measure => simp [intOf] <;> omega
            · have hh := hide hh0
              have HST := hide (show sumW (fun c => hasT V c.name) (L.take (k + 1)) = S + c.watts by rw [hst]; simp [hh0]); clear hst hnc hh0
              go_wp2_with (go_at_call 39; refine (rHasText_is hh.out _ _ _ (by omega) HRV.out).mono ?_; rintro e w' ⟨rfl, rfl⟩)
              go_roundw
              case rel => exact ⟨k + 1, by omega, by go_num, by rw [HST.out] <;> first | rfl | rw [hw2], hbel⟩
              case measure => simp [intOf] <;> omega
          · obtain rfl : k = L.length := by omega
            have hsum := HSUM.out
            rw [List.take_length] at *
            generalize sumW (fun c => hasT V c.name) L = S at *
            have hne : (S + T != s) = false := by rw [hsum]; simp
            have hw1 : IntKind.i64.wrap (S + T) = S + T := by rw [IntKind.wrap_i64]; omega
            have HSM := hide hsum; clear hsum
            go_wp2_with fail
            go_meet; exact hbel
  have b1 := hcut; clear hcut Rv hvl HV HT HSV
  have BJ := below_step BJ b1 (Nat.le_refl _); have hcj := hcj.later b1; replace RL := Rd.later RL b1
  clear b1
  as_aux_lemma =>
  go_wp2_with fail
  refine (SwitchOff_any L s _ _ _ RL kOk (by unfold maxLen; omega) hcap).mono ?_
  rintro e wj ⟨Af, cf, rfl, hof, b1⟩
  have BJ := below_step BJ b1 (Nat.le_refl _); have hcj := hcj.later b1; replace RL := Rd.later RL b1
  have Rf := Own.rd_of encS_len hof; clear hof b1
  rw [← HF.out, ← HOB.out]
  rw [← HF.out] at Rf
  go_wp2_with fail
  refine (SwitchOff_spec L s _ _ _ RL kOk (by unfold maxLen; omega)).mono ?_
  rintro e wj ⟨Ax, cx, rfl, hox, b1⟩
  have BJ := below_step BJ b1 (Nat.le_refl _); have hcj := hcj.later b1; replace RL := Rd.later RL b1; replace Rf := Rd.later Rf b1
  have Rx := Own.rd_of encS_len hox; clear hox b1
  rw [← HF.out, ← HOB.out]
  rw [← HF.out] at Rx
  go_wp2_with fail
  refine (rTexts_same F F.length rfl _ _ _ _ _ (by omega) Rf Rx).mono ?_
  rintro e wj ⟨rfl, b1⟩
  have BJ := below_step BJ b1 (Nat.le_refl _); have hcj := hcj.later b1; replace RL := Rd.later RL b1; replace Rf := Rd.later Rf b1
  clear b1 Rx
  go_upto_if 124 with fail
  go_cut [17, 18, 19, 20, 21] (fun _ _ _ _ _ wx => Below w.heap.size w wx)
  case first =>
    as_aux_lemma =>
      cases ob
      · go_wp2_with fail
        go_meet
        exact BJ
      · obtain ⟨hso, hle⟩ := HOF.out rfl
        have HSO := hide hso; have HLE := hide hle; clear hso hle HOB HF HOF HWB
        have hown : Own Consumer.enc 3 65 wj.heap.size (wj.alloc (.cells #[] 65)) (.slice (some ⟨wj.heap.size, 0, none⟩) 0 0) ([] : List Consumer) := own_empty (Nat.le_refl _)
        have hb0 : Below wj.heap.size wj (wj.alloc (.cells #[] 65)) := (Below.refl _ _).alloc (Nat.le_refl _) _
        go_wp2_with fail
        go_loopw [18, 17] (fun i l wr => ∃ (k z cap : Nat) (A : Option Addr) (R : List Consumer), k ≤ L.length ∧ i = .int .i64 k ∧ l = .slice A z cap ∧ R.length = z ∧ z ≤ k ∧ Hid (R = restL (L.take k) F) ∧ Own Consumer.enc 3 65 wj.heap.size wr (.slice A z cap) R ∧ Below wj.heap.size wj wr) (fun i _ _ => L.length - (intOf i).toNat)
        case atStart => exact ⟨0, 0, 0, _, [], Nat.zero_le _, rfl, rfl, rfl, Nat.le_refl _, hide rfl, hown, hb0⟩
        case round =>
          clear hown hb0
          obtain ⟨k, z, cap, A2, R, hk, rfl, rfl, hRz, hzk, HR, hown, hbel⟩ := hrel
          have BK := below_step BJ hbel (Nat.le_refl _)
          by_cases hlt : k < L.length
          · have hki : (k : Int) < (L.length : Int) := by omega
            obtain ⟨bL, oL, rfl, _, hcL⟩ := Consumer.rd_at (Rd.later RL hbel) (by intro h; rw [h] at hlt; simp at hlt)
            obtain ⟨c, hc⟩ : ∃ c, L[k]? = some c := ⟨_, List.getElem?_eq_getElem hlt⟩
            obtain ⟨y0, y1, y2⟩ := hcL k _ hc
            have hrs := rest_snoc (N := F) hc
            clear hcL hc
            have HRF := hide (Rd.later Rf hbel)
            subst hRz
            cases hh0 : hasT F c.name
            · have hh := hide hh0; have HRS := hide (show restL (L.take (k + 1)) F = restL (L.take k) F ++ [c] by rw [hrs, hh0]; rfl); clear hrs hh0
              go_wp2_with (first | (go_at_call 39; refine (rHasText_is hh.out _ _ _ (by omega) HRF.out).mono ?_; rintro e w' ⟨rfl, rfl⟩) | (at_builtin; refine wpList_push _ rfl (.tmp 140) (.tmp 145) 28 65 rfl Try.underlying28 Consumer.infoE rfl (by omega) (by omega) Consumer.enc_len Consumer.enc_one wj.heap.size _ _ R c _ rfl rfl _ rfl rfl hown hbel.size (by omega) ?_; intro A5 cap5 w5 ho5 hb5))
              go_roundw
              case rel => exact ⟨k + 1, _, _, _, R ++ [c], by omega, by go_num, rfl, by simp, by omega, hide (by rw [HRS.out, HR.out]), ho5, hbel.trans hb5⟩
              case measure => simp [intOf] <;> omega
            · have hh := hide hh0; have HRS := hide (show restL (L.take (k + 1)) F = restL (L.take k) F by rw [hrs, hh0]; rfl); clear hrs hh0
              go_wp2_with (go_at_call 39; refine (rHasText_is hh.out _ _ _ (by omega) HRF.out).mono ?_; rintro e w' ⟨rfl, rfl⟩)
              go_roundw
              case rel => exact ⟨k + 1, _, _, _, R, by omega, by go_num, rfl, rfl, by omega, hide (by rw [HRS.out, HR.out]), hown, hbel⟩
              case measure => simp [intOf] <;> omega
          · obtain rfl : k = L.length := by omega
            have hR := HR.out
            rw [List.take_length] at hR
            have HSO2 := hide (show servB R s = true by rw [hR]; exact HSO.out)
            have HLE2 := hide (show (servV R s).length = R.length by rw [hR]; exact HLE.out)
            have hok : ∀ c ∈ R, c.Ok := fun c hc => kOk c (by rw [hR] at hc; exact (List.mem_filter.1 hc).1)
            have HK := hide hok; clear hR hok
            subst hRz
            have RR := Own.rd_of Consumer.enc_len hown; have hcp := own_cap hown
            go_wp2_with fail
            refine (ServedWith_any R s _ _ _ RR HK.out (by unfold maxLen; omega) hcp).mono ?_
            rintro e w6 ⟨Aq, cq, rfl, hoq, b6⟩
            rw [HSO2.out, HLE2.out]
            have B6 := below_step BK b6 (Nat.le_refl _)
            have hzz : ((R.length : Int) != (R.length : Int)) = false := by simp
            clear hoq
            go_wp2_with fail
            go_meet; exact B6
  have BJ := hcut; clear hcut Rf RL hcj
  clear hfl HOB HF HOF HWB hs0 hs1 zL hcap kOk
  have hcj := hc.later BJ
  as_aux_lemma =>
  go_wp2_with fail
  refine (DrawEmergencyLoad_any A Lc cap _ hcj).mono ?_
  rintro e wj ⟨AL, nL, cL, L, r, rfl, hr0, hr1, rfl, zL, hcap, kOk, RL, b1⟩
  have BJ := below_step BJ b1 (Nat.le_refl _); have hcj := hcj.later b1; clear b1
  have hmn := fun (h1 : emB L r = true) (h2 : emB L (r - 1) = true) => em_mono h1 h2
  have hbd := emV_bd L r; have hbd2 := emV_bd L (r - 1)
  have heq : emB L r = (consB L && inB r 1 9) := rfl
  obtain ⟨ev, hev⟩ : ∃ ev, ev = emV L r := ⟨_, rfl⟩
  obtain ⟨eb, heb⟩ : ∃ eb, eb = emB L r := ⟨_, rfl⟩
  obtain ⟨ev2, hev2⟩ : ∃ ev2, ev2 = emV L (r - 1) := ⟨_, rfl⟩
  obtain ⟨eb2, heb2⟩ : ∃ eb2, eb2 = emB L (r - 1) := ⟨_, rfl⟩
  obtain ⟨cb, hcb⟩ : ∃ cb, cb = consB L := ⟨_, rfl⟩
  rw [← heb, ← heb2, ← hev, ← hev2] at hmn; rw [← heb, ← hcb] at heq
  have HEV := hide hev; have HEB := hide heb; have HEV2 := hide hev2; have HEB2 := hide heb2; have HCB := hide hcb; have HMN := hide hmn; have HEQ := hide heq; clear hev heb hev2 heb2 hcb hmn hbd hbd2 heq
  go_wp2_with fail
  refine (EmergencyLoad_any L r _ _ _ RL kOk (by unfold maxLen; omega) hcap).mono ?_
  rintro e wj ⟨rfl, b1⟩
  have BJ := below_step BJ b1 (Nat.le_refl _); have hcj := hcj.later b1; replace RL := Rd.later RL b1
  clear b1
  rw [← HEV.out, ← HEB.out]
  go_wp2_with fail
  refine (EmergencyLoad_spec L r _ _ _ RL kOk (by unfold maxLen; omega)).mono ?_
  rintro e wj ⟨rfl, b1⟩
  have BJ := below_step BJ b1 (Nat.le_refl _); have hcj := hcj.later b1; replace RL := Rd.later RL b1
  clear b1
  rw [← HEV.out, ← HEB.out]
  cases cb
  · obtain rfl : eb = false := by rw [HEQ.out]; rfl
    clear HEQ
    go_wp2_with fail
    refine (AreConsumers_is HCB.out.symm _ _ _ RL kOk (by unfold maxLen; omega) hcap).mono ?_
    rintro e wj ⟨rfl, b1⟩
    have BJ := below_step BJ b1 (Nat.le_refl _); have hcj := hcj.later b1; replace RL := Rd.later RL b1
    clear b1
    go_wp2_with fail
    refine (EmergencyLoad_any L (r - 1) _ _ _ RL kOk (by unfold maxLen; omega) hcap).mono ?_
    rintro e wj ⟨rfl, b1⟩
    have BJ := below_step BJ b1 (Nat.le_refl _); have hcj := hcj.later b1; replace RL := Rd.later RL b1
    clear b1
    rw [← HEV2.out, ← HEB2.out]
    go_wp2_with fail
    go_ret; exact ⟨rfl, BJ⟩
  · by_cases h1 : 1 ≤ r
    · by_cases h2 : r ≤ 9
      · obtain rfl : eb = true := by rw [HEQ.out]; simp [inB]; omega
        clear HEQ
        go_wp2_with fail
        refine (AreConsumers_is HCB.out.symm _ _ _ RL kOk (by unfold maxLen; omega) hcap).mono ?_
        rintro e wj ⟨rfl, b1⟩
        have BJ := below_step BJ b1 (Nat.le_refl _); have hcj := hcj.later b1; replace RL := Rd.later RL b1
        clear b1
        go_wp2_with fail
        refine (EmergencyLoad_any L (r - 1) _ _ _ RL kOk (by unfold maxLen; omega) hcap).mono ?_
        rintro e wj ⟨rfl, b1⟩
        have BJ := below_step BJ b1 (Nat.le_refl _); have hcj := hcj.later b1; replace RL := Rd.later RL b1
        clear b1
        rw [← HEV2.out, ← HEB2.out]
        cases eb2
        · go_wp2_with fail
          go_ret; exact ⟨rfl, BJ⟩
        · have hmn := HMN.out (by first | trivial | rfl) rfl
          have hgt : ¬ ev < ev2 := by omega
          go_wp2_with fail
          go_ret; exact ⟨rfl, BJ⟩
      · obtain rfl : eb = false := by rw [HEQ.out]; simp [inB]; omega
        clear HEQ
        go_wp2_with fail
        refine (AreConsumers_is HCB.out.symm _ _ _ RL kOk (by unfold maxLen; omega) hcap).mono ?_
        rintro e wj ⟨rfl, b1⟩
        have BJ := below_step BJ b1 (Nat.le_refl _); have hcj := hcj.later b1; replace RL := Rd.later RL b1
        clear b1
        go_wp2_with fail
        refine (EmergencyLoad_any L (r - 1) _ _ _ RL kOk (by unfold maxLen; omega) hcap).mono ?_
        rintro e wj ⟨rfl, b1⟩
        have BJ := below_step BJ b1 (Nat.le_refl _); have hcj := hcj.later b1; replace RL := Rd.later RL b1
        clear b1
        rw [← HEV2.out, ← HEB2.out]
        go_wp2_with fail
        go_ret; exact ⟨rfl, BJ⟩
    · obtain rfl : eb = false := by rw [HEQ.out]; simp [inB]; omega
      clear HEQ
      go_wp2_with fail
      refine (AreConsumers_is HCB.out.symm _ _ _ RL kOk (by unfold maxLen; omega) hcap).mono ?_
      rintro e wj ⟨rfl, b1⟩
      have BJ := below_step BJ b1 (Nat.le_refl _); have hcj := hcj.later b1; replace RL := Rd.later RL b1
      clear b1
      go_wp2_with fail
      refine (EmergencyLoad_any L (r - 1) _ _ _ RL kOk (by unfold maxLen; omega) hcap).mono ?_
      rintro e wj ⟨rfl, b1⟩
      have BJ := below_step BJ b1 (Nat.le_refl _); have hcj := hcj.later b1; replace RL := Rd.later RL b1
      clear b1
      rw [← HEV2.out, ← HEB2.out]
      go_wp2_with fail
      go_ret; exact ⟨rfl, BJ⟩
open Go.ChangeShapes Go.WideShapes Go.ChangeAt Go.RowKit
theorem elU8 {H : Type} {enc : TypeId × Value → H} {w : World} {base : Nat} {spare : Nat → Bool} {held : Bool} (n : Nat) (cs : List Value) (y : DataW H × List MemPlace) (h : DataW.trod enc Try.prog w base spare held n 5 cs = some y) : ∃ c : Int, cs = encU8 c ∧ 0 ≤ c ∧ c < 256 := by
  obtain ⟨k, hk, _, hw⟩ := DataW.trod_int Try.underlying5 h
  have hw2 : 0 ≤ k ∧ k ≤ 255 := by simpa [Lit.wf, IntKind.min, IntKind.max, IntKind.bits, IntKind.signed] using hw
  exact ⟨k, hk, by omega, by omega⟩
set_option maxRecDepth 100000 in
theorem lifted (os : Os) (started : os.Started) (H : Type) (enc : TypeId × Value → H) :
    ReturnsInHanded {} Try.checked os 7 .any (Rows.fnPowerSpec.pre6 enc Try.prog Try.f7 Rows.fnPowerRow.domain false) (Rows.fnPowerSpec.post enc Try.prog Try.f7 false true false false) := by
  refine returnsInHanded_of_change (C := Try.checked) own started (by kernel_rfl) Try.func7
    (ChangeSpec.witness6 (enc := enc) (C := Try.checked) false ⟨#[], #[.slice none 0 0], []⟩ 8 (by kernel_rfl) (by kernel_rfl) (by kernel_rfl) (by kernel_rfl)) ?_
  intro W base args ds gs before hval0 hW hcnd _
  have hval : ∀ (j : Nat) t v, Try.f7.params[j]? = some t → args[j]? = some v → Value.okWide Try.prog W .any base t v := hval0
  have hW' := hW
  obtain ⟨p, q, hA0, hV, rfl, hfz, hnd⟩ := hW
  have hA : DataW.TrodAll enc Try.prog W 0 (fun _ => true) true Try.f7.params.toList args.toList ds p := hA0
  rw [Try.params7] at hA hval
  obtain ⟨v0, vs0, d0, ds0, p0, q0, hargs, rfl, rfl, h0, e0⟩ := trodAll_cons hA
  obtain ⟨rfl, rfl, rfl⟩ := trodAll_nil e0
  obtain rfl : args = #[v0] := by cases args; simp_all
  obtain ⟨rfl, rfl⟩ := trodVars_none hV
  have k0 := h0
  have lt0 : ∀ x ∈ p0, x.block < W.heap.size := by obtain ⟨m, hm⟩ := k0; exact DataW.trod_lt m _ _ _ hm
  obtain ⟨A0, len0, c0, rfl⟩ := okWide_slice Try.underlying34 (hval 0 34 v0 rfl rfl)
  obtain ⟨fu0, hf0⟩ := h0
  obtain ⟨L0, rfl, r0, g0, l0⟩ := open_list (encα := encU8) (m := 1) (Good := fun c => 0 ≤ c ∧ c < 256) Try.underlying34 (by kernel_rfl) (by decide) encU8_len elU8 hf0
  clear hA0 hval0
  refine (walk L0 A0 c0 W ⟨l0, g0, r0⟩).mono fun e W' ⟨he, bel⟩ => ?_
  subst he
  exact ⟨_, rfl, _, _, _, [], _, [], hW', trodAll_mk1 (shut_bool Try.underlying4 _), (trodAll_cons_mk (Below.trod laidOut (by kernel_rfl) (of_decide_eq_true (by kernel_rfl)) k0 bel lt0) trodAll_mk0), rfl, bel.frame _, fun h => by cases h⟩
theorem over : Rows.fnPowerRow.holds Try.pinned (OpenSpec.ofChange Rows.fnPowerSpec) :=
  OpenClaim.holds_of_wide 7 Try.f7 rfl rfl rfl rfl rfl rfl rfl ⟨rfl, rfl, rfl, rfl, rfl⟩ rfl rfl rfl rfl rfl (by kernel_rfl) Try.func7 (by kernel_rfl)
    (of_decide_eq_true (by kernel_rfl)) (by unfold Func.isWrapper; first | (rw [if_pos (by decide +kernel)]; kernel_rfl) | (rw [if_neg (by decide +kernel)]; exact ⟨rfl, rfl⟩))
    (fun os started H enc _ => lifted os started H enc)
theorem proved : Rows.FnPowerSaid := over
#print axioms proved
end Go.Proofs.Ytafefnpmgpmjpaa.lawPower
