/- The law FnConditions: for every input its call returns true and changes nothing that was there. The permits hold until some condition is not met, an inspection with a good grade is met on its day, and the worst grade is somebody's. No condition. -/
import Derived.Test.YtknondhdhjegbaaToolsC
import Derived.Test.YtknondhdhjegbaaDrawCon
import Derived.Deep.DeepCutAuto
import Derived.Test.YtknondhdhjegbaaCondL
import Derived.Test.YtknondhdhjegbaaOpen
namespace Go.Proofs.Ytknondhdhjegbaa.lawConditions
open Go Go.RowKit
set_option linter.unusedVariables false
set_option maxRecDepth 100000 in
set_option maxHeartbeats 8000000 in
theorem walk (Lc : List Int) (A : Option Addr) (cap : Nat) (w : World) (hc : CodeIs w A Lc) :
    Calls Try.prog 9 #[.slice A Lc.length cap] w fun e w' => e = .returned (.bool true) ∧ Below w.heap.size w w' := by
  have hl := hc.1
  by_cases hbig : (65536 : Int) < (Lc.length : Int)
  · have hd : decide ((65536 : Int) < (Lc.length : Int)) = true := by simpa using hbig
    go_enter Try.func9, Try.ntmps9
    go_wp2_with fail
    refine (rBig_any _ A cap w hl).mono ?_
    rintro e w1 ⟨rfl, rfl⟩
    rw [hd]; clear hd hbig
    go_wp2_with fail
    go_ret
    exact ⟨rfl, Below.refl _ _⟩
  have hd : decide ((65536 : Int) < (Lc.length : Int)) = false := by simpa using hbig
  go_enter Try.func9, Try.ntmps9
  go_wp2_with fail
  refine (rBig_any _ A cap w hl).mono ?_
  rintro e wj ⟨rfl, rfl⟩
  rw [hd]; clear hd hbig
  have BJ : Below w.heap.size w w := Below.refl _ _
  obtain ⟨wj, hwj⟩ : ∃ wj, wj = w := ⟨_, rfl⟩
  have hcj : CodeIs wj A Lc := hwj ▸ hc
  have BJ : Below w.heap.size w wj := hwj ▸ BJ
  go_wp2_with fail
  rw [← hwj]; clear hwj
  refine (DrawHoldsUntil_any A Lc cap _ hcj).mono ?_
  rintro e wj ⟨AL, nL, cL, L, x, rfl, rfl, zL, nilL, kOk, RL, b1⟩
  have BJ := below_step BJ b1 (Nat.le_refl _); have hcj := hcj.later b1; clear b1
  have hhi := holds_is L x; have hhf := holds_facts (L := L) (d := x); have hul := unmetV_len L x; have huf := unmetV_false (L := L) (d := x)
  have hhl : holdsB L x = true → holdsV L x = lastOf L := fun h => (holds_facts h).1
  obtain ⟨ob, hob⟩ : ∃ ob, ob = holdsB L x := ⟨_, rfl⟩
  obtain ⟨la, hla⟩ : ∃ la, la = holdsV L x := ⟨_, rfl⟩
  obtain ⟨U, hU⟩ : ∃ U, U = unmetV L x := ⟨_, rfl⟩
  obtain ⟨fb, hfb⟩ : ∃ fb, fb = unmetB L x := ⟨_, rfl⟩
  rw [← hob, ← hU, ← hfb] at hhi; rw [← hob, ← hla] at hhf; rw [← hU] at hul huf; rw [← hfb] at huf
  have HHI := hide hhi; have HHF := hide hhf; have HUF := hide huf; have HOB := hide hob; have HLA := hide hla; have HU := hide hU; have HFB := hide hfb; clear hhi hhf hhl huf hob hla hU hfb
  go_wp2_with fail
  refine (HoldsUntil_any L _ _ x _ RL kOk (by unfold maxLen; omega)).mono ?_
  rintro e wj ⟨rfl, b1⟩
  have BJ := below_step BJ b1 (Nat.le_refl _); have hcj := hcj.later b1; replace RL := Rd.later RL b1
  clear b1
  rw [← HLA.out, ← HOB.out]
  go_wp2_with fail
  refine (HoldsUntil_spec L _ _ x _ RL kOk (by unfold maxLen; omega)).mono ?_
  rintro e wj ⟨rfl, b1⟩
  have BJ := below_step BJ b1 (Nat.le_refl _); have hcj := hcj.later b1; replace RL := Rd.later RL b1
  clear b1
  rw [← HLA.out, ← HOB.out]
  go_wp2_with fail
  refine (UnmetOn_any L _ _ x _ RL kOk (by unfold maxLen; omega)).mono ?_
  rintro e wj ⟨Au, cu, rfl, hou, b1⟩
  have BJ := below_step BJ b1 (Nat.le_refl _); have hcj := hcj.later b1; replace RL := Rd.later RL b1
  have Ru := Own.rd_of encI_len hou; clear hou b1
  rw [← HU.out, ← HFB.out]
  rw [← HU.out] at Ru
  go_wp2_with fail
  refine (UnmetOn_spec L _ _ x _ RL kOk (by unfold maxLen; omega)).mono ?_
  rintro e wj ⟨Av, cv, rfl, hov, b1⟩
  have BJ := below_step BJ b1 (Nat.le_refl _); have hcj := hcj.later b1; replace RL := Rd.later RL b1
  replace Ru := Rd.later Ru b1
  have Rv := Own.rd_of encI_len hov; clear hov b1
  rw [← HU.out, ← HFB.out]
  rw [← HU.out] at Rv
  have BK := Below.refl wj.heap.size wj
  go_upto_region 10 with fail
  go_cut [92] (fun s wx => s = .bool false ∧ Below wj.heap.size wj wx)
  case first =>
    as_aux_lemma =>
      have hhi := HHI.out
      cases fb
      · have hU0 := HUF.out rfl
        have hob : ob = false := by rw [hhi]; rfl
        clear hhi; subst hob hU0
        go_wp2_with (go_at_call 36; refine (rInts_same [] 0 rfl _ _ _ _ _ (by omega) Ru Rv).mono ?_; rintro e wk ⟨rfl, b1⟩; have BK := below_step BK b1 (Nat.le_refl _))
        go_meet; exact ⟨rfl, BK⟩
      · by_cases hl0 : U.length = 0
        · have hob : ob = true := by rw [hhi]; simpa using hl0
          have hU0 : U = [] := List.length_eq_zero_iff.1 hl0
          clear hhi hl0; subst hob hU0
          go_wp2_with (go_at_call 36; refine (rInts_same [] 0 rfl _ _ _ _ _ (by omega) Ru Rv).mono ?_; rintro e wk ⟨rfl, b1⟩; have BK := below_step BK b1 (Nat.le_refl _))
          go_meet; exact ⟨rfl, BK⟩
        · have hob : ob = false := by rw [hhi]; simpa using hl0
          have hl1 : ((U.length : Int) == 0) = false := by simpa using hl0
          clear hhi; subst hob
          go_wp2_with (go_at_call 36; refine (rInts_same U U.length rfl _ _ _ _ _ (by omega) Ru Rv).mono ?_; rintro e wk ⟨rfl, b1⟩; have BK := below_step BK b1 (Nat.le_refl _))
          go_meet; exact ⟨rfl, BK⟩
  obtain ⟨rfl, b1⟩ := hcut
  have BJ := below_step BJ b1 (Nat.le_refl _); have hcj := hcj.later b1; replace RL := Rd.later RL b1; clear Ru Rv b1 BK
  go_upto_if 93 with fail
  go_cut [13, 14, 15, 16] (fun _ _ _ _ wx => Below w.heap.size w wx)
  case first =>
    as_aux_lemma =>
      cases ob
      · go_wp2_with fail
        go_meet
        exact BJ
      · obtain ⟨g1, g2, g3, g4, g5, g6⟩ := HHF.out rfl
        rw [← g1] at g2 g3 g4 g5 g6
        have G4 := hide g4; have G5 := hide g5; have G6 := hide g6; clear g1 g4 g5 g6
        have hwr : IntKind.i64.wrap (la + 1) = la + 1 := by rw [IntKind.wrap_i64]; omega
        go_wp2_with fail
        refine (UnmetOn_any L _ _ la _ RL kOk (by unfold maxLen; omega)).mono ?_
        rintro e wj ⟨At, ct, rfl, hot, b1⟩
        have BJ := below_step BJ b1 (Nat.le_refl _); have hcj := hcj.later b1; replace RL := Rd.later RL b1; clear b1 hot
        rw [G5.out, G4.out, List.length_nil]
        go_wp2_with fail
        refine (UnmetOn_any L _ _ (la + 1) _ RL kOk (by unfold maxLen; omega)).mono ?_
        rintro e wj ⟨An, cn, rfl, hon, b1⟩
        have BJ := below_step BJ b1 (Nat.le_refl _); have hcj := hcj.later b1; replace RL := Rd.later RL b1; clear b1 hon
        have g6 := G6.out
        generalize unmetV L (la + 1) = N at *; generalize unmetB L (la + 1) = nb at *
        cases nb
        · clear g6; go_wp2_with fail
          go_meet; exact BJ
        · have hn0 : ¬ N.length = 0 := fun h => g6 rfl (List.length_eq_zero_iff.1 h)
          have hn1 : ((N.length : Int) == 0) = false := by simpa using hn0
          clear g6; go_wp2_with fail
          go_meet; exact BJ
  clear RL hcj BJ HHI HHF HUF HOB HLA HU HFB hul kOk nilL zL
  have BJ := hcut; clear hcut
  as_aux_lemma =>
  have hcj := hc.later BJ
  go_wp2_with fail
  refine (DrawInspectAgain_any A Lc cap _ hcj).mono ?_
  rintro e wj ⟨AL, nL, cL, L, n, d, g, rfl, rfl, zL, nilL, kOk, RL, b1⟩
  have BJ := below_step BJ b1 (Nat.le_refl _); have hcj := hcj.later b1; clear b1
  have hvl := agV_len L n d g; have haf := again_facts (n := n) (d := d) (g := g) kOk
  obtain ⟨V, hV⟩ : ∃ V, V = agV L n d g := ⟨_, rfl⟩
  obtain ⟨ab, hab⟩ : ∃ ab, ab = agB L n d g := ⟨_, rfl⟩
  rw [← hV] at hvl haf; rw [← hab] at haf; have HV := hide hV; have HAB := hide hab; have HAF := hide haf; clear hV hab haf
  go_wp2_with fail
  refine (InspectAgain_any L n d g _ _ _ RL kOk (by unfold maxLen; omega)).mono ?_
  rintro e wj ⟨Au, cu, rfl, hou, b1⟩
  have BJ := below_step BJ b1 (Nat.le_refl _); have hcj := hcj.later b1; replace RL := Rd.later RL b1
  have Ru := Own.rd_of Condition.enc_len hou; clear hou b1
  rw [← HV.out, ← HAB.out]
  rw [← HV.out] at Ru
  go_wp2_with fail
  refine (InspectAgain_spec L n d g _ _ _ RL kOk (by unfold maxLen; omega) nilL).mono ?_
  rintro e wj ⟨Av, cv, rfl, hov, b1⟩
  have BJ := below_step BJ b1 (Nat.le_refl _); have hcj := hcj.later b1; replace RL := Rd.later RL b1
  replace Ru := Rd.later Ru b1
  have Rv := Own.rd_of Condition.enc_len hov; clear hov b1
  rw [← HV.out, ← HAB.out]
  rw [← HV.out] at Rv
  go_wp2_with fail
  refine (rConditions_same V V.length rfl _ _ _ _ _ (by omega) Ru Rv).mono ?_
  rintro e wj ⟨rfl, b1⟩
  have BJ := below_step BJ b1 (Nat.le_refl _); have hcj := hcj.later b1; replace RL := Rd.later RL b1; replace Ru := Rd.later Ru b1; clear b1 Rv
  go_upto_if 152 with fail
  go_cut [25, 26] (fun _ _ wx => Below w.heap.size w wx)
  case first =>
    as_aux_lemma =>
      cases ab
      · go_wp2_with fail
        go_meet
        exact BJ
      · obtain ⟨g1, g2, g3⟩ := HAF.out rfl
        have hnl := unmetV_len V d
        obtain ⟨N, hN⟩ : ∃ N, N = unmetV V d := ⟨_, rfl⟩
        rw [← hN] at g3 hnl; have G2 := hide g2; have HN := hide hN; have VOK := g1; clear g1 g2 hN
        go_wp2_with fail
        refine (UnmetOn_any V _ _ d _ Ru VOK (by unfold maxLen; omega)).mono ?_
        rintro e wj ⟨An, cn, rfl, hon, b1⟩
        have BJ := below_step BJ b1 (Nat.le_refl _); have Rn := Own.rd_of encI_len hon; clear hon b1
        rw [G2.out, ← HN.out]; rw [← HN.out] at Rn
        by_cases h5 : g = 5
        · have hh := hide (hasB_yes (g3.2 h5)); have h5b : (g == 5) = true := by simpa using h5
          clear h5 g3
          go_wp2_with (go_at_call 39; refine (rHas_any N N.length rfl n _ _ _ (by omega) Rn).mono ?_; rintro e w' ⟨rfl, rfl⟩; rw [hh.out])
          go_meet; exact BJ
        · have hh := hide (hasB_no (fun h => h5 (g3.1 h))); have h5b : (g == 5) = false := by simpa using h5
          clear h5 g3
          go_wp2_with (go_at_call 39; refine (rHas_any N N.length rfl n _ _ _ (by omega) Rn).mono ?_; rintro e w' ⟨rfl, rfl⟩; rw [hh.out])
          go_meet; exact BJ
  clear RL Ru hcj BJ HV HAB HAF hvl kOk nilL zL
  have BJ := hcut; clear hcut
  as_aux_lemma =>
  have hcj := hc.later BJ
  go_wp2_with fail
  refine (DrawWorstGrade_any A Lc cap _ hcj).mono ?_
  rintro e wj ⟨AL, nL, cL, L, rfl, rfl, zL, nilL, kOk, RL, b1⟩
  have BJ := below_step BJ b1 (Nat.le_refl _); have hcj := hcj.later b1; clear b1
  have hwl := worstL_len L; have hwf := worst_facts (L := L); have hw0 := worstL_false (L := L)
  obtain ⟨M, hM⟩ : ∃ M, M = worstL L := ⟨_, rfl⟩
  obtain ⟨mg, hmg⟩ : ∃ mg, mg = worstV L := ⟨_, rfl⟩
  obtain ⟨wb, hwb⟩ : ∃ wb, wb = worstB L := ⟨_, rfl⟩
  rw [← hM, ← hmg, ← hwb] at hwf; rw [← hM] at hwl; rw [← hM, ← hwb] at hw0; have HM := hide hM; have HMG := hide hmg; have HWB := hide hwb; have HWF := hide hwf; have HW0 := hide hw0; clear hM hmg hwb hwf hw0
  go_wp2_with fail
  refine (WorstGrade_any L _ _ _ RL kOk (by unfold maxLen; omega)).mono ?_
  rintro e wj ⟨Au, cu, rfl, hou, b1⟩
  have BJ := below_step BJ b1 (Nat.le_refl _); have hcj := hcj.later b1; replace RL := Rd.later RL b1
  have Ru := Own.rd_of encI_len hou; clear hou b1
  rw [← HM.out, ← HMG.out, ← HWB.out]
  rw [← HM.out] at Ru
  go_wp2_with fail
  refine (WorstGrade_spec L _ _ _ RL kOk (by unfold maxLen; omega)).mono ?_
  rintro e wj ⟨Av, cv, rfl, hov, b1⟩
  have BJ := below_step BJ b1 (Nat.le_refl _); have hcj := hcj.later b1; replace RL := Rd.later RL b1
  replace Ru := Rd.later Ru b1
  have Rv := Own.rd_of encI_len hov; clear hov b1
  rw [← HM.out, ← HMG.out, ← HWB.out]
  rw [← HM.out] at Rv
  have BK := Below.refl wj.heap.size wj
  go_upto_region 31 with fail
  go_cut [204] (fun s wx => s = .bool false ∧ Below wj.heap.size wj wx)
  case first =>
    as_aux_lemma =>
      cases wb
      · have hM0 := HW0.out rfl
        subst hM0
        go_wp2_with (go_at_call 36; refine (rInts_same [] 0 rfl _ _ _ _ _ (by omega) Ru Rv).mono ?_; rintro e wk ⟨rfl, b1⟩; have BK := below_step BK b1 (Nat.le_refl _))
        go_meet; exact ⟨rfl, BK⟩
      · have hm0 : ¬ M.length = 0 := fun h => (HWF.out rfl).1 (List.length_eq_zero_iff.1 h)
        have hm1 : ((M.length : Int) == 0) = false := by simpa using hm0
        go_wp2_with (go_at_call 36; refine (rInts_same M M.length rfl _ _ _ _ _ (by omega) Ru Rv).mono ?_; rintro e wk ⟨rfl, b1⟩; have BK := below_step BK b1 (Nat.le_refl _))
        go_meet; exact ⟨rfl, BK⟩
  obtain ⟨rfl, b1⟩ := hcut
  have BJ := below_step BJ b1 (Nat.le_refl _); have hcj := hcj.later b1; replace RL := Rd.later RL b1; replace Ru := Rd.later Ru b1; clear Rv b1 BK
  go_wp2_with fail
  have RLk := RL; have BK := BJ
  cases wb
  · go_loop [34] (fun i => i = .int .i64 0) (fun _ => 0)
    case atStart => rfl
    case round =>
      obtain rfl := hrel
      by_cases hl0 : (0 : Int) < (L.length : Int)
      · as_aux_lemma =>
        go_wp2_with fail
        refine (AreConditions_any L _ _ _ RLk kOk (by unfold maxLen; omega)).mono ?_
        rintro e w5 ⟨rfl, b1⟩
        have BK := below_step BK b1 (Nat.le_refl _); replace RLk := Rd.later RLk b1; clear b1
        go_wp2_with fail
        refine (AreConditions_spec L _ _ _ RLk kOk (by unfold maxLen; omega)).mono ?_
        rintro e w6 ⟨rfl, b1⟩
        have BK := below_step BK b1 (Nat.le_refl _); clear b1 RLk
        generalize goodC L = gp at *
        cases gp <;> (go_wp2_with fail; go_ret; exact ⟨rfl, BK⟩)
      · as_aux_lemma =>
        go_wp2_with fail
        refine (AreConditions_any L _ _ _ RLk kOk (by unfold maxLen; omega)).mono ?_
        rintro e w5 ⟨rfl, b1⟩
        have BK := below_step BK b1 (Nat.le_refl _); replace RLk := Rd.later RLk b1; clear b1
        go_wp2_with fail
        refine (AreConditions_spec L _ _ _ RLk kOk (by unfold maxLen; omega)).mono ?_
        rintro e w6 ⟨rfl, b1⟩
        have BK := below_step BK b1 (Nat.le_refl _); clear b1 RLk
        generalize goodC L = gp at *
        cases gp <;> (go_wp2_with fail; go_ret; exact ⟨rfl, BK⟩)
  · obtain ⟨_, hwf⟩ := HWF.out rfl
    have HW := hide hwf; clear hwf
    go_loopw [34] (fun i wr => ∃ k : Nat, k ≤ L.length ∧ i = .int .i64 k ∧ Below wc.heap.size wc wr) (fun i _ => L.length - (intOf i).toNat)
    case atStart => exact ⟨0, Nat.zero_le _, rfl, Below.refl _ _⟩
    case round =>
      obtain ⟨k, hk, rfl, hbel⟩ := hrel
      have BK := below_step BJ hbel (Nat.le_refl _)
      have RLk := Rd.later RL hbel
      by_cases hlt : k < L.length
      · have hget := List.getElem?_eq_getElem hlt
        obtain ⟨f1, f2⟩ := HW.out k _ hget
        obtain ⟨b, o, rfl, _, hcL⟩ := Condition.rd_at RLk (by intro h; rw [h] at hlt; simp at hlt)
        obtain ⟨x0, _, _, _, x4⟩ := hcL k _ hget
        generalize L[k] = c at *
        replace x0 := after_cell x0; replace x4 := after_cell x4
        have hki : (k : Int) < (L.length : Int) := by omega
        have hng : ¬ mg < c.grade := by omega
        have hnd : decide (mg < c.grade) = false := by simpa using hng
        have hRU := Rd.later Ru hbel
        have HRU := hide hRU; clear hcL hget hRU RLk
        by_cases hgr : c.grade = mg
        · have hh := hide (hasB_yes (f2.2 hgr)); have hgb : (c.grade == mg) = true := by simpa using hgr
          clear hgr f2 f1
          go_wp2_with fail
          refine wp_region_after (by kernel_rfl) (by kernel_rfl) ?_
          repeat (go_big_quiet_step ((go_at_call 39; exact Calls.after_same (rHas_is hh.out _ _ _ (by omega) (HRU.out.later (Subtype.property _))))))
          refine wpQuiet_nil ?_
          rintro _ ⟨⟨w1, hb1⟩, rfl⟩
          go_wp2_with fail
          go_roundw
          case rel => exact ⟨k + 1, by omega, by go_num, below_step hbel hb1 (Nat.le_refl _)⟩
          case measure => simp [intOf] <;> omega
        · have hh := hide (hasB_no (fun h => hgr (f2.1 h))); have hgb : (c.grade == mg) = false := by simpa using hgr
          clear hgr f2 f1
          go_wp2_with fail
          refine wp_region_after (by kernel_rfl) (by kernel_rfl) ?_
          repeat (go_big_quiet_step ((go_at_call 39; exact Calls.after_same (rHas_is hh.out _ _ _ (by omega) (HRU.out.later (Subtype.property _))))))
          refine wpQuiet_nil ?_
          rintro _ ⟨⟨w1, hb1⟩, rfl⟩
          go_wp2_with fail
          go_roundw
          case rel => exact ⟨k + 1, by omega, by go_num, below_step hbel hb1 (Nat.le_refl _)⟩
          case measure => simp [intOf] <;> omega
      · have hki : ¬ (k : Int) < (L.length : Int) := by omega
        go_wp2_with fail
        refine (AreConditions_any L _ _ _ RLk kOk (by unfold maxLen; omega)).mono ?_
        rintro e w5 ⟨rfl, b1⟩
        have BK := below_step BK b1 (Nat.le_refl _); replace RLk := Rd.later RLk b1; clear b1
        go_wp2_with fail
        refine (AreConditions_spec L _ _ _ RLk kOk (by unfold maxLen; omega)).mono ?_
        rintro e w6 ⟨rfl, b1⟩
        have BK := below_step BK b1 (Nat.le_refl _); clear b1 RLk
        generalize goodC L = gp at *
        cases gp <;> (go_wp2_with fail; go_ret; exact ⟨rfl, BK⟩)
open Go.ChangeShapes Go.WideShapes Go.ChangeAt Go.RowKit
theorem elU8 {H : Type} {enc : TypeId × Value → H} {w : World} {base : Nat} {spare : Nat → Bool} {held : Bool} (n : Nat) (cs : List Value) (y : DataW H × List MemPlace) (h : DataW.trod enc Try.prog w base spare held n 5 cs = some y) : ∃ c : Int, cs = encU8 c ∧ 0 ≤ c ∧ c < 256 := by
  obtain ⟨k, hk, _, hw⟩ := DataW.trod_int Try.underlying5 h
  have hw2 : 0 ≤ k ∧ k ≤ 255 := by simpa [Lit.wf, IntKind.min, IntKind.max, IntKind.bits, IntKind.signed] using hw
  exact ⟨k, hk, by omega, by omega⟩
set_option maxRecDepth 100000 in
theorem lifted (os : Os) (started : os.Started) (H : Type) (enc : TypeId × Value → H) :
    ReturnsInHanded {} Try.checked os 9 .any (Rows.fnConditionsSpec.pre6 enc Try.prog Try.f9 Rows.fnConditionsRow.domain false) (Rows.fnConditionsSpec.post enc Try.prog Try.f9 false true false false) := by
  refine returnsInHanded_of_change (C := Try.checked) own started (by kernel_rfl) Try.func9
    (ChangeSpec.witness6 (enc := enc) (C := Try.checked) false ⟨#[], #[.slice none 0 0], []⟩ 8 (by kernel_rfl) (by kernel_rfl) (by kernel_rfl) (by kernel_rfl)) ?_
  intro W base args ds gs before hval0 hW hcnd _
  have hval : ∀ (j : Nat) t v, Try.f9.params[j]? = some t → args[j]? = some v → Value.okWide Try.prog W .any base t v := hval0
  have hW' := hW
  obtain ⟨p, q, hA0, hV, rfl, hfz, hnd⟩ := hW
  have hA : DataW.TrodAll enc Try.prog W 0 (fun _ => true) true Try.f9.params.toList args.toList ds p := hA0
  rw [Try.params9] at hA hval
  obtain ⟨v0, vs0, d0, ds0, p0, q0, hargs, rfl, rfl, h0, e0⟩ := trodAll_cons hA
  obtain ⟨rfl, rfl, rfl⟩ := trodAll_nil e0
  obtain rfl : args = #[v0] := by cases args; simp_all
  obtain ⟨rfl, rfl⟩ := trodVars_none hV
  have k0 := h0
  have lt0 : ∀ x ∈ p0, x.block < W.heap.size := by obtain ⟨m, hm⟩ := k0; exact DataW.trod_lt m _ _ _ hm
  obtain ⟨A0, len0, c0, rfl⟩ := okWide_slice Try.underlying50 (hval 0 50 v0 rfl rfl)
  obtain ⟨fu0, hf0⟩ := h0
  obtain ⟨L0, rfl, r0, g0, l0⟩ := open_list (encα := encU8) (m := 1) (Good := fun c => 0 ≤ c ∧ c < 256) Try.underlying50 (by kernel_rfl) (by decide) encU8_len elU8 hf0
  clear hA0 hval0
  refine (walk L0 A0 c0 W ⟨l0, g0, r0⟩).mono fun e W' ⟨he, bel⟩ => ?_
  subst he
  exact ⟨_, rfl, _, _, _, [], _, [], hW', trodAll_mk1 (shut_bool Try.underlying4 _), (trodAll_cons_mk (Below.trod laidOut (by kernel_rfl) (of_decide_eq_true (by kernel_rfl)) k0 bel lt0) trodAll_mk0), rfl, bel.frame _, fun h => by cases h⟩
theorem over : Rows.fnConditionsRow.holds Try.pinned (OpenSpec.ofChange Rows.fnConditionsSpec) :=
  OpenClaim.holds_of_wide 9 Try.f9 rfl rfl rfl rfl rfl rfl rfl ⟨rfl, rfl, rfl, rfl, rfl⟩ rfl rfl rfl rfl rfl (by kernel_rfl) Try.func9 (by kernel_rfl)
    (of_decide_eq_true (by kernel_rfl)) (by unfold Func.isWrapper; first | (rw [if_pos (by decide +kernel)]; kernel_rfl) | (rw [if_neg (by decide +kernel)]; exact ⟨rfl, rfl⟩))
    (fun os started H enc _ => lifted os started H enc)
theorem proved : Rows.FnConditionsSaid := over
#print axioms proved
end Go.Proofs.Ytknondhdhjegbaa.lawConditions
