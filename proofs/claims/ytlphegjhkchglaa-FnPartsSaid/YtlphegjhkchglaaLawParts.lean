/- The law FnParts: for every input its call returns true and changes nothing that was there. What there is and what was used is what there was, with all that is ordered there is enough, an order comes ahead of the missed use. No condition. -/
import Derived.Test.YtlphegjhkchglaaDrawUs
import Derived.Test.YtlphegjhkchglaaPartsP
import Derived.Test.YtlphegjhkchglaaTools
import Derived.Test.YtlphegjhkchglaaParts2
import Derived.Test.YtlphegjhkchglaaOpen
import Derived.Deep.Cut
import Derived.Deep.CutBlock
import Derived.Deep.DeepCutAuto
import Derived.MakeChecks
import Derived.Deep.DeepHandedRow
import Derived.OpenShut
import Derived.ProofKit
namespace Go.Proofs.Ytlphegjhkchglaa.lawParts
open Go Go.RowKit
set_option linter.unusedVariables false
set_option linter.unusedSimpArgs false
set_option maxRecDepth 100000 in
set_option maxHeartbeats 8000000 in
theorem walk (Lc : List Int) (A : Option Addr) (cap : Nat) (w : World) (hc : CodeIs w A Lc) :
    Calls Try.prog 12 #[.slice A Lc.length cap] w fun e w' => e = .returned (.bool true) ∧ Below w.heap.size w w' := by
  have hl := hc.1
  by_cases hbig : (65536 : Int) < (Lc.length : Int)
  · have hd : decide ((65536 : Int) < (Lc.length : Int)) = true := by simpa using hbig
    go_enter Try.func12, Try.ntmps12
    go_wp2_with fail
    refine (rBig_any _ A cap w hl).mono ?_
    rintro e w1 ⟨rfl, rfl⟩
    rw [hd]; clear hd hbig
    go_wp2_with fail
    go_ret
    exact ⟨rfl, Below.refl _ _⟩
  have hd : decide ((65536 : Int) < (Lc.length : Int)) = false := by simpa using hbig
  go_enter Try.func12, Try.ntmps12
  go_wp2_with fail
  refine (rBig_any _ A cap w hl).mono ?_
  rintro e wj ⟨rfl, rfl⟩
  rw [hd]; clear hd hbig
  have BJ : Below w.heap.size w w := Below.refl _ _
  obtain ⟨wj, hwj⟩ : ∃ wj, wj = w := ⟨_, rfl⟩
  have hcj : CodeIs wj A Lc := hwj ▸ hc
  have BJ : Below w.heap.size w wj := hwj ▸ BJ
  go_wp2_with fail
  rw [← hwj]; clear hwj
  refine (DrawStockAfter_any A Lc cap _ hcj).mono ?_
  rintro e wj ⟨AL, nL, cL, L, AU, nU, cU, U, D, rfl, ⟨rfl, zL, nilL, kOk, RL, b1⟩, rfl, zU, nilU, uOk, RU⟩
  have BJ := below_step BJ b1 (Nat.le_refl _); have hcj := hcj.later b1; clear b1
  have hlaw := fun (h : stkB L U D = true) (k : Nat) (p : Part) (hp : L[k]? = some p) => stk_law h hp
  have hbd := fun (h : stkB L U D = true) (nm : ByteArray) (n : Nat) (hn : n ≤ U.length) => used_bd (show usesB L U = true by simp only [stkB, Bool.and_eq_true] at h; exact h.1) nm D (missV L U) n hn
  have hub := fun (h : stkB L U D = true) (k : Nat) (u : Use) (hu : U[k]? = some u) => (uses_at (show usesB L U = true by simp only [stkB, Bool.and_eq_true] at h; exact h.1) hu).2.2
  have hvl := stkV_len L U D; have hml := missV_len L U
  obtain ⟨V, hV⟩ : ∃ V, V = stkV L U D := ⟨_, rfl⟩
  obtain ⟨ob, hob⟩ : ∃ ob, ob = stkB L U D := ⟨_, rfl⟩
  obtain ⟨M, hM⟩ : ∃ M, M = missV L U := ⟨_, rfl⟩
  obtain ⟨uq, huq⟩ : ∃ uq, uq = usesB L U := ⟨_, rfl⟩
  rw [← hob] at hlaw hbd hub; rw [← hV] at hlaw hvl; rw [← hM] at hlaw hbd hml
  have HV := hide hV; have HOB := hide hob; have HM := hide hM; have HUQ := hide huq; have HUB := hide hub; clear hV hob hM huq hub
  have HLAW := hide hlaw; have HBD := hide hbd; clear hlaw hbd
  go_wp2_with fail
  refine (StockAfter_any L U D _ _ _ _ _ RL RU kOk (by unfold maxLen; omega) (by unfold maxLen; omega)).mono ?_
  rintro e wj ⟨Av, cv, rfl, hov, b1⟩
  have BJ := below_step BJ b1 (Nat.le_refl _); have hcj := hcj.later b1; replace RL := Rd.later RL b1; replace RU := Rd.later RU b1
  have Rv := Own.rd_of encI_len hov; clear hov b1
  rw [← HV.out, ← HOB.out]
  rw [← HV.out] at Rv
  go_wp2_with fail
  refine (StockAfter_spec L U D _ _ _ _ _ RL RU kOk (by unfold maxLen; omega) (by unfold maxLen; omega)).mono ?_
  rintro e wj ⟨Ax, cx, rfl, hox, b1⟩
  have BJ := below_step BJ b1 (Nat.le_refl _); have hcj := hcj.later b1; replace RL := Rd.later RL b1; replace RU := Rd.later RU b1; replace Rv := Rd.later Rv b1
  have Rx := Own.rd_of encI_len hox; clear hox b1
  rw [← HV.out, ← HOB.out]
  rw [← HV.out] at Rx
  go_wp2_with fail
  refine (rInts_same V V.length rfl _ _ _ _ _ (by omega) Rv Rx).mono ?_
  rintro e wj ⟨rfl, b1⟩
  have BJ := below_step BJ b1 (Nat.le_refl _); have hcj := hcj.later b1; replace RL := Rd.later RL b1; replace RU := Rd.later RU b1; replace Rv := Rd.later Rv b1
  clear b1 Rx
  go_wp2_with fail
  refine (MissedUses_any L U _ _ _ _ _ RL RU kOk (by unfold maxLen; omega) (by unfold maxLen; omega)).mono ?_
  rintro e wj ⟨Am, cm, rfl, hom, b1⟩
  have BJ := below_step BJ b1 (Nat.le_refl _); have hcj := hcj.later b1; replace RL := Rd.later RL b1; replace RU := Rd.later RU b1; replace Rv := Rd.later Rv b1
  have Rm := Own.rd_of encI_len hom; clear hom b1
  rw [← HM.out, ← HUQ.out]
  rw [← HM.out] at Rm
  go_wp2_with fail
  refine (MissedUses_spec L U _ _ _ _ _ RL RU kOk (by unfold maxLen; omega) (by unfold maxLen; omega)).mono ?_
  rintro e wj ⟨An, cn, rfl, hon, b1⟩
  have BJ := below_step BJ b1 (Nat.le_refl _); have hcj := hcj.later b1; replace RL := Rd.later RL b1; replace RU := Rd.later RU b1; replace Rv := Rd.later Rv b1; replace Rm := Rd.later Rm b1
  have Rn := Own.rd_of encI_len hon; clear hon b1
  rw [← HM.out, ← HUQ.out]
  rw [← HM.out] at Rn
  go_wp2_with fail
  refine (rInts_same M M.length rfl _ _ _ _ _ (by omega) Rm Rn).mono ?_
  rintro e wj ⟨rfl, b1⟩
  have BJ := below_step BJ b1 (Nat.le_refl _); have hcj := hcj.later b1; replace RL := Rd.later RL b1; replace RU := Rd.later RU b1; replace Rv := Rd.later Rv b1; replace Rm := Rd.later Rm b1
  clear b1 Rn
  go_wp2_with fail
  refine (AreUses_any L U _ _ _ _ _ RL RU kOk (by unfold maxLen; omega) (by unfold maxLen; omega)).mono ?_
  rintro e wj ⟨rfl, b1⟩
  have BJ := below_step BJ b1 (Nat.le_refl _); have hcj := hcj.later b1; replace RL := Rd.later RL b1; replace RU := Rd.later RU b1; replace Rv := Rd.later Rv b1; replace Rm := Rd.later Rm b1
  clear b1
  rw [← HUQ.out]; clear HV HOB HM HUQ
  go_upto_block 0 with fail
  go_cut [14, 15, 16] (fun _ _ _ wx => Below w.heap.size w wx)
  case first =>
    as_aux_lemma =>
      go_wp2_with fail
      cases ob
      · go_loop [14] (fun i => i = .int .i64 0) (fun _ => 0)
        case atStart => rfl
        case round =>
          obtain rfl := hrel
          by_cases hl0 : (0 : Int) < (L.length : Int)
          · go_wp2_with fail; go_meet; exact BJ
          · go_wp2_with fail; go_meet; exact BJ
      · have hlaw := HLAW.out rfl; have hbd := HBD.out rfl; have hub := HUB.out rfl
        have HL2 := hide hlaw; have HB2 := hide hbd; have HU2 := hide hub; clear hlaw hbd hub HLAW HBD HUB
        go_loopw [14] (fun i wr => ∃ k : Nat, k ≤ L.length ∧ i = .int .i64 k ∧ Below wj.heap.size wj wr) (fun i _ => L.length - (intOf i).toNat)
        case atStart => exact ⟨0, Nat.zero_le _, rfl, Below.refl _ _⟩
        case round =>
          obtain ⟨k, hk, rfl, hbel⟩ := hrel
          have BK := below_step BJ hbel (Nat.le_refl _)
          by_cases hlt : k < L.length
          · have hki : (k : Int) < (L.length : Int) := by omega
            obtain ⟨p, hp⟩ : ∃ p, L[k]? = some p := ⟨_, List.getElem?_eq_getElem hlt⟩
            obtain ⟨x, hxv, ⟨x0, x1⟩, hsum⟩ := HL2.out k p hp
            obtain ⟨W1, hW1⟩ : ∃ W, W = wr := ⟨_, rfl⟩
            subst hW1
            have HSUM := hide hsum; clear hsum
            have HP := hide hp; have HXV := hide hxv; clear hp hxv
            go_wp2_with fail
            go_loopw [16, 15] (fun i s wr => ∃ j : Nat, j ≤ U.length ∧ i = .int .i64 j ∧ s = .int .i64 (usedK U p.name D M j) ∧ Below wj.heap.size wj wr) (fun i _ _ => U.length - (intOf i).toNat)
            case atStart => exact ⟨0, Nat.zero_le _, rfl, rfl, hbel⟩
            case round =>
              clear hbel BK
              obtain ⟨j, hj, rfl, rfl, hbel⟩ := hrel
              have BK := below_step BJ hbel (Nat.le_refl _)
              obtain ⟨bL, oL, rfl, _, hcL⟩ := Part.rd_at (Rd.later RL hbel) (by intro h; rw [h] at hlt; simp at hlt)
              obtain ⟨y0, y1, _, _, _⟩ := hcL k _ HP.out
              clear hcL
              by_cases hjl : j < U.length
              · have hji : (j : Int) < (U.length : Int) := by omega
                obtain ⟨bU, oU, rfl, _, hcU⟩ := Use.rd_at (Rd.later RU hbel) (by intro h; rw [h] at hjl; simp at hjl)
                obtain ⟨u, hu⟩ : ∃ u, U[j]? = some u := ⟨_, List.getElem?_eq_getElem hjl⟩
                obtain ⟨z0, z1, z2⟩ := hcU j _ hu
                obtain ⟨s0, s1⟩ := HB2.out p.name j hj
                obtain ⟨u1, u2⟩ := HU2.out j _ hu
                have hst := used_step (nm := p.name) (D := D) (M := M) hu
                clear hcU hu y1
                have HRM := hide (Rd.later Rm hbel)
                have a0 := after_cell y0; have a1 := after_cell z0; have a2 := after_cell z1
                generalize usedK U p.name D M j = S at *
                have hw2 : IntKind.i64.wrap (S + u.count) = S + u.count := by rw [IntKind.wrap_i64]; omega
                cases hb0 : (u.name.toList == p.name.toList)
                · skip
                  obtain ⟨hb, hh⟩ : ∃ b, Hid (hasB M (j : Int) = b) := ⟨_, hide rfl⟩
                  have HST := hide (show usedK U p.name D M (j + 1) = S by rw [hst]; simp [hb0]); clear hst
                  go_wp2_with fail
                  refine wp_region_after (by kernel_rfl) (by kernel_rfl) ?_
                  repeat (go_big_quiet_step ((go_at_call 46; exact Calls.after_same (rHas_is hh.out _ _ _ (by omega) (HRM.out.later (Subtype.property _))))))
                  refine wpQuiet_nil ?_
                  rintro W3 ⟨⟨_, hb3⟩, rfl⟩
                  clear a0 a1 a2
                  go_wp2_with fail
                  go_roundw
                  case rel => exact ⟨j + 1, by omega, by go_num, by rw [HST.out], below_step hbel hb3 (Nat.le_refl _)⟩
                  case measure => simp [intOf] <;> omega
                · by_cases hd : u.day ≤ D
                  · have hdd : decide (u.day ≤ D) = true := by simpa using hd
                    cases hh0 : hasB M (j : Int)
                    · have hh := hide hh0
                      have HST := hide (show usedK U p.name D M (j + 1) = S + u.count by rw [hst]; simp [hb0, hd, hh0]); clear hst
                      clear hh0
                      go_wp2_with fail
                      refine wp_region_after (by kernel_rfl) (by kernel_rfl) ?_
                      repeat (go_big_quiet_step ((go_at_call 46; exact Calls.after_same (rHas_is hh.out _ _ _ (by omega) (HRM.out.later (Subtype.property _))))))
                      refine wpQuiet_nil ?_
                      rintro W3 ⟨⟨_, hb3⟩, rfl⟩
                      clear a0 a1 a2
                      replace z2 := below_cell hb3 z2
                      go_wp2_with fail
                      go_roundw
                      case rel => exact ⟨j + 1, by omega, by go_num, by rw [HST.out] <;> first | rfl | rw [hw2], below_step hbel hb3 (Nat.le_refl _)⟩
                      case measure => simp [intOf] <;> omega
                    · have hh := hide hh0
                      have HST := hide (show usedK U p.name D M (j + 1) = S by rw [hst]; simp [hb0, hd, hh0]); clear hst
                      clear hh0
                      go_wp2_with fail
                      refine wp_region_after (by kernel_rfl) (by kernel_rfl) ?_
                      repeat (go_big_quiet_step ((go_at_call 46; exact Calls.after_same (rHas_is hh.out _ _ _ (by omega) (HRM.out.later (Subtype.property _))))))
                      refine wpQuiet_nil ?_
                      rintro W3 ⟨⟨_, hb3⟩, rfl⟩
                      clear a0 a1 a2
                      go_wp2_with fail
                      go_roundw
                      case rel => exact ⟨j + 1, by omega, by go_num, by rw [HST.out], below_step hbel hb3 (Nat.le_refl _)⟩
                      case measure => simp [intOf] <;> omega
                  · have hdd : decide (u.day ≤ D) = false := by simpa using hd
                    obtain ⟨hb, hh⟩ : ∃ b, Hid (hasB M (j : Int) = b) := ⟨_, hide rfl⟩
                    have HST := hide (show usedK U p.name D M (j + 1) = S by rw [hst]; simp [hb0, hd]); clear hst
                    go_wp2_with fail
                    refine wp_region_after (by kernel_rfl) (by kernel_rfl) ?_
                    repeat (go_big_quiet_step ((go_at_call 46; exact Calls.after_same (rHas_is hh.out _ _ _ (by omega) (HRM.out.later (Subtype.property _))))))
                    refine wpQuiet_nil ?_
                    rintro W3 ⟨⟨_, hb3⟩, rfl⟩
                    clear a0 a1 a2
                    go_wp2_with fail
                    go_roundw
                    case rel => exact ⟨j + 1, by omega, by go_num, by rw [HST.out], below_step hbel hb3 (Nat.le_refl _)⟩
                    case measure => simp [intOf] <;> omega
              · obtain rfl : j = U.length := by omega
                obtain ⟨s0, s1⟩ := HB2.out p.name _ hj
                have hsum := HSUM.out
                generalize usedK U p.name D M U.length = S at *
                obtain ⟨bV, oV, hAV, _, hcV⟩ := rd_int (Rd.later Rv hbel) (by intro h; have := HXV.out; rw [h] at this; simp at this)
                subst hAV
                have v0 := hcV k _ HXV.out
                have hkV : (k : Int) < (V.length : Int) := by have := (List.getElem?_eq_some_iff.1 HXV.out).1; omega
                have hw1 : IntKind.i64.wrap (x + S) = x + S := by rw [IntKind.wrap_i64]; omega
                have hne : (x + S != p.have_) = false := by rw [hsum]; simp
                have hx0 : decide (x < 0) = false := decide_eq_false (by omega)
                have HSM := hide hsum; clear hsum hcV
                have a0 := after_cell y1; have a1 := after_cell v0
                go_wp2_with fail
                refine wp_region_after (by kernel_rfl) (by kernel_rfl) ?_
                repeat (go_big_quiet_step (fail))
                refine wpQuiet_nil ?_
                rintro W3 ⟨⟨_, hb3⟩, rfl⟩
                clear a0 a1
                go_wp2_with fail
                go_roundw
                case rel => exact ⟨k + 1, by omega, by go_num, below_step hbel hb3 (Nat.le_refl _)⟩
                case measure => simp [intOf] <;> omega
          · obtain rfl : k = L.length := by omega
            go_wp2_with fail
            go_meet; exact BK
  clear RL RU Rv Rm hcj BJ HLAW HBD HUB hvl hml kOk uOk nilL nilU zL zU
  have BJ := hcut; clear hcut
  as_aux_lemma =>
  have hcj := hc.later BJ
  go_wp2_with fail
  refine (DrawOrderBy_any A Lc cap _ hcj).mono ?_
  rintro e wj ⟨AL, nL, cL, L, AU, nU, cU, U, nm, rfl, hnm, ⟨rfl, zL, nilL, kOk, RL, b1⟩, rfl, zU, nilU, uOk, RU⟩
  have BJ := below_step BJ b1 (Nat.le_refl _); have hcj := hcj.later b1; clear b1
  have hms := fun (h : ordB L U nm = true) => ord_miss h
  have hml := missV_len L U
  obtain ⟨ov, hov⟩ : ∃ ov, ov = ordV L U nm := ⟨_, rfl⟩
  obtain ⟨ob, hob⟩ : ∃ ob, ob = ordB L U nm := ⟨_, rfl⟩
  obtain ⟨M, hM⟩ : ∃ M, M = missV L U := ⟨_, rfl⟩
  obtain ⟨uq, huq⟩ : ∃ uq, uq = usesB L U := ⟨_, rfl⟩
  rw [← hob, ← hM, ← huq] at hms; rw [← hM] at hml
  have HOV := hide hov; have HOB := hide hob; have HM := hide hM; have HUQ := hide huq; have HMS := hide hms; clear hov hob hM huq hms
  go_wp2_with fail
  refine (OrderBy_any L U nm _ _ _ _ _ RL RU kOk (by unfold maxLen; omega) (by unfold maxLen; omega)).mono ?_
  rintro e wj ⟨rfl, b1⟩
  have BJ := below_step BJ b1 (Nat.le_refl _); have hcj := hcj.later b1; replace RL := Rd.later RL b1; replace RU := Rd.later RU b1
  clear b1
  rw [← HOV.out, ← HOB.out]
  go_wp2_with fail
  refine (OrderBy_spec L U nm _ _ _ _ _ RL RU kOk (by unfold maxLen; omega) (by unfold maxLen; omega)).mono ?_
  rintro e wj ⟨rfl, b1⟩
  have BJ := below_step BJ b1 (Nat.le_refl _); have hcj := hcj.later b1; replace RL := Rd.later RL b1; replace RU := Rd.later RU b1
  clear b1
  rw [← HOV.out, ← HOB.out]
  go_upto_if 186 with fail
  go_cut [24, 25] (fun _ _ wx => Below w.heap.size w wx)
  case first =>
    as_aux_lemma =>
      cases ob
      · go_wp2_with fail
        go_meet
        exact BJ
      · obtain ⟨hq1, hq2⟩ := HMS.out rfl
        subst hq1
        have hq3 : ((M.length : Int) == 0) = false := beq_eq_false_iff_ne.2 (by omega)
        go_wp2_with fail
        refine (MissedUses_any L U _ _ _ _ _ RL RU kOk (by unfold maxLen; omega) (by unfold maxLen; omega)).mono ?_
        rintro e wj ⟨Am, cm, rfl, hom, b1⟩
        have BJ := below_step BJ b1 (Nat.le_refl _); have hcj := hcj.later b1; replace RL := Rd.later RL b1; replace RU := Rd.later RU b1
        have Rm := Own.rd_of encI_len hom; clear hom b1
        rw [← HM.out, ← HUQ.out]
        rw [← HM.out] at Rm
        go_wp2_with fail
        go_meet; exact BJ
  clear RL RU hcj BJ HOV HOB HM HUQ HMS hml kOk uOk nilL nilU zL zU
  have BJ := hcut; clear hcut
  as_aux_lemma =>
  have hcj := hc.later BJ
  go_wp2_with fail
  refine (DrawToOrder_any A Lc cap _ hcj).mono ?_
  rintro e wj ⟨AL, nL, cL, L, rfl, rfl, zL, nilL, kOk, RL, b1⟩
  have BJ := below_step BJ b1 (Nat.le_refl _); have hcj := hcj.later b1; clear b1
  have hov := orderV_len L; have hoa := fun (h : partsB L = true) (k : Nat) (c : Part) (hk : L[k]? = some c) => order_at h hk
  have hpl : partsB L = true → orderV L = orderL L := fun h => by rw [orderV, if_pos h]
  have hol : (orderL L).length = L.length := by simp [orderL]
  obtain ⟨V, hV⟩ : ∃ V, V = orderV L := ⟨_, rfl⟩
  obtain ⟨pb, hpb⟩ : ∃ pb, pb = partsB L := ⟨_, rfl⟩
  obtain ⟨Q, hQ⟩ : ∃ Q, Q = orderL L := ⟨_, rfl⟩
  rw [← hpb] at hoa hpl; rw [← hQ] at hpl hol hoa; rw [← hV] at hov hpl
  have HV := hide hV; have HPB := hide hpb; have HOA := hide hoa; have HPL := hide hpl; have HOL := hide hol; clear hV hpb hoa hpl hol hQ
  go_wp2_with fail
  refine (ToOrder_any L _ _ _ RL kOk (by unfold maxLen; omega)).mono ?_
  rintro e wj ⟨Av, cv, rfl, hov, b1⟩
  have BJ := below_step BJ b1 (Nat.le_refl _); have hcj := hcj.later b1; replace RL := Rd.later RL b1
  have Rv := Own.rd_of encI_len hov; clear hov b1
  rw [← HV.out, ← HPB.out]
  rw [← HV.out] at Rv
  go_wp2_with fail
  refine (ToOrder_spec L _ _ _ RL kOk (by unfold maxLen; omega)).mono ?_
  rintro e wj ⟨Ax, cx, rfl, hox, b1⟩
  have BJ := below_step BJ b1 (Nat.le_refl _); have hcj := hcj.later b1; replace RL := Rd.later RL b1; replace Rv := Rd.later Rv b1
  have Rx := Own.rd_of encI_len hox; clear hox b1
  rw [← HV.out, ← HPB.out]
  rw [← HV.out] at Rx
  go_wp2_with fail
  refine (rInts_same V V.length rfl _ _ _ _ _ (by omega) Rv Rx).mono ?_
  rintro e wj ⟨rfl, b1⟩
  have BJ := below_step BJ b1 (Nat.le_refl _); have hcj := hcj.later b1; replace RL := Rd.later RL b1; replace Rv := Rd.later Rv b1
  clear b1 Rx
  go_wp2_with fail
  refine (AreParts_is HPB.out.symm _ _ _ RL kOk (by unfold maxLen; omega)).mono ?_
  rintro e wj ⟨rfl, b1⟩
  have BJ := below_step BJ b1 (Nat.le_refl _); have hcj := hcj.later b1; replace RL := Rd.later RL b1; replace Rv := Rd.later Rv b1
  clear b1
  go_wp2_with fail
  cases pb
  · go_loop [31] (fun i => i = .int .i64 0) (fun _ => 0)
    case atStart => rfl
    case round =>
      obtain rfl := hrel
      by_cases hl0 : (0 : Int) < (L.length : Int)
      · go_wp2_with fail; go_ret; exact ⟨rfl, BJ⟩
      · go_wp2_with fail; go_ret; exact ⟨rfl, BJ⟩
  · obtain rfl := HPL.out rfl
    have hoa := HOA.out rfl; have hol := HOL.out; have HOA2 := hide hoa; clear hoa
    go_loopw [31] (fun i wr => ∃ k : Nat, k ≤ L.length ∧ i = .int .i64 k ∧ Below wj.heap.size wj wr) (fun i _ => L.length - (intOf i).toNat)
    case atStart => exact ⟨0, Nat.zero_le _, rfl, Below.refl _ _⟩
    case round =>
      obtain ⟨k, hk, rfl, hbel⟩ := hrel
      have BK := below_step BJ hbel (Nat.le_refl _)
      by_cases hlt : k < L.length
      · have hki : (k : Int) < (L.length : Int) := by omega
        obtain ⟨bL, oL, rfl, _, hcL⟩ := Part.rd_at (Rd.later RL hbel) (by intro h; rw [h] at hlt; simp at hlt)
        obtain ⟨bO, oO, hAo, _, hcO⟩ := rd_int (Rd.later Rv hbel) (by intro h; rw [h] at hol; simp at hol; omega)
        subst hAo
        have hg := List.getElem?_eq_getElem hlt
        obtain ⟨_, y1, y2, _, _⟩ := hcL k _ hg
        obtain ⟨o1, o2, ⟨o3, o4⟩, o5, o6⟩ := HOA2.out k _ hg
        have yo := hcO k _ o1
        clear o1
        generalize L[k] = c at *
        generalize missOf c = m at *
        have hkV : (k : Int) < (V.length : Int) := by omega
        have hw1 : IntKind.i64.wrap (c.have_ + m) = c.have_ + m := by rw [IntKind.wrap_i64]; omega
        have hd1 : decide (c.have_ + m < c.least) = false := decide_eq_false (by omega)
        have a0 := after_cell y1; have a1 := after_cell y2; have a2 := after_cell yo
        clear hg hcL hcO hol
        go_wp2_with fail
        refine wp_region_after (by kernel_rfl) (by kernel_rfl) ?_
        repeat (go_big_quiet_step (fail))
        refine wpQuiet_nil ?_
        rintro W3 ⟨⟨_, hb3⟩, rfl⟩
        clear a0 a1 a2
        go_wp2_with fail
        go_roundw
        case rel => exact ⟨k + 1, by omega, by go_num, below_step hbel hb3 (Nat.le_refl _)⟩
        case measure => simp [intOf] <;> omega
      · obtain rfl : k = L.length := by omega
        go_wp2_with fail
        go_ret; exact ⟨rfl, BK⟩
open Go.ChangeShapes Go.WideShapes Go.ChangeAt Go.RowKit
theorem elU8 {H : Type} {enc : TypeId × Value → H} {w : World} {base : Nat} {spare : Nat → Bool} {held : Bool} (n : Nat) (cs : List Value) (y : DataW H × List MemPlace) (h : DataW.trod enc Try.prog w base spare held n 5 cs = some y) : ∃ c : Int, cs = encU8 c ∧ 0 ≤ c ∧ c < 256 := by
  obtain ⟨k, hk, _, hw⟩ := DataW.trod_int Try.underlying5 h
  have hw2 : 0 ≤ k ∧ k ≤ 255 := by simpa [Lit.wf, IntKind.min, IntKind.max, IntKind.bits, IntKind.signed] using hw
  exact ⟨k, hk, by omega, by omega⟩
set_option maxRecDepth 100000 in
theorem lifted (os : Os) (started : os.Started) (H : Type) (enc : TypeId × Value → H) :
    ReturnsInHanded {} Try.checked os 12 .any (Rows.fnPartsSpec.pre6 enc Try.prog Try.f12 Rows.fnPartsRow.domain false) (Rows.fnPartsSpec.post enc Try.prog Try.f12 false true false false) := by
  refine returnsInHanded_of_change (C := Try.checked) own started (by kernel_rfl) Try.func12
    (ChangeSpec.witness6 (enc := enc) (C := Try.checked) false ⟨#[], #[.slice none 0 0], []⟩ 8 (by kernel_rfl) (by kernel_rfl) (by kernel_rfl) (by kernel_rfl)) ?_
  intro W base args ds gs before hval0 hW hcnd _
  have hval : ∀ (j : Nat) t v, Try.f12.params[j]? = some t → args[j]? = some v → Value.okWide Try.prog W .any base t v := hval0
  have hW' := hW
  obtain ⟨p, q, hA0, hV, rfl, hfz, hnd⟩ := hW
  have hA : DataW.TrodAll enc Try.prog W 0 (fun _ => true) true Try.f12.params.toList args.toList ds p := hA0
  rw [Try.params12] at hA hval
  obtain ⟨v0, vs0, d0, ds0, p0, q0, hargs, rfl, rfl, h0, e0⟩ := trodAll_cons hA
  obtain ⟨rfl, rfl, rfl⟩ := trodAll_nil e0
  obtain rfl : args = #[v0] := by cases args; simp_all
  obtain ⟨rfl, rfl⟩ := trodVars_none hV
  have k0 := h0
  have lt0 : ∀ x ∈ p0, x.block < W.heap.size := by obtain ⟨m, hm⟩ := k0; exact DataW.trod_lt m _ _ _ hm
  obtain ⟨A0, len0, c0, rfl⟩ := okWide_slice Try.underlying55 (hval 0 55 v0 rfl rfl)
  obtain ⟨fu0, hf0⟩ := h0
  obtain ⟨L0, rfl, r0, g0, l0⟩ := open_list (encα := encU8) (m := 1) (Good := fun c => 0 ≤ c ∧ c < 256) Try.underlying55 (by kernel_rfl) (by decide) encU8_len elU8 hf0
  clear hA0 hval0
  refine (walk L0 A0 c0 W ⟨l0, g0, r0⟩).mono fun e W' ⟨he, bel⟩ => ?_
  subst he
  exact ⟨_, rfl, _, _, _, [], _, [], hW', trodAll_mk1 (shut_bool Try.underlying4 _), (trodAll_cons_mk (Below.trod laidOut (by kernel_rfl) (of_decide_eq_true (by kernel_rfl)) k0 bel lt0) trodAll_mk0), rfl, bel.frame _, fun h => by cases h⟩
theorem over : Rows.fnPartsRow.holds Try.pinned (OpenSpec.ofChange Rows.fnPartsSpec) :=
  OpenClaim.holds_of_wide 12 Try.f12 rfl rfl rfl rfl rfl rfl rfl ⟨rfl, rfl, rfl, rfl, rfl⟩ rfl rfl rfl rfl rfl (by kernel_rfl) Try.func12 (by kernel_rfl)
    (of_decide_eq_true (by kernel_rfl)) (by unfold Func.isWrapper; first | (rw [if_pos (by decide +kernel)]; kernel_rfl) | (rw [if_neg (by decide +kernel)]; exact ⟨rfl, rfl⟩))
    (fun os started H enc _ => lifted os started H enc)
theorem proved : Rows.FnPartsSaid := over
#print axioms proved
end Go.Proofs.Ytlphegjhkchglaa.lawParts
