/- The law FnStock: for every input its call returns true and changes nothing that was there. Stock that is added and taken away is as before, the cost is the sum, no part is dearer than the dearest. No condition. -/
import Derived.Test.YtlphegjhkchglaaDoorStockP
import Derived.Test.YtlphegjhkchglaaDoorToolsP
import Derived.Test.YtlphegjhkchglaaDoorDrawPt
import Derived.Test.YtlphegjhkchglaaDoorPtx
import Derived.Test.YtlphegjhkchglaaDoorOpen
import Derived.Test.YtlphegjhkchglaaDoorCards
import Derived.Test.YtlphegjhkchglaaDoorTie
import Derived.ProofKit
import Derived.OpenShut
import Derived.Deep.DeepHandedRow
import Derived.Lib.LaidTab
import Derived.Stop.LaidErr
import Derived.MakeChecks
import Derived.OpenVars
import Derived.Deep.DeepCutAuto
namespace Go.Proofs.YtlphegjhkchglaaDoor.lawStock
open Go Go.RowKit
set_option linter.unusedVariables false
set_option maxRecDepth 100000 in
set_option maxHeartbeats 8000000 in
theorem walk (Lc : List Int) (A : Option Addr) (cap : Nat) (w : World) (hc : CodeIs w A Lc) (ht : Tab10 w) :
    Calls Tryd.prog 4 #[.slice A Lc.length cap] w fun e w' => e = .returned (.bool true) ∧ Below w.heap.size w w' := by
  have HT := hide ht; clear ht
  have hl := hc.1
  by_cases hbig : (65536 : Int) < (Lc.length : Int)
  · have hd : decide ((65536 : Int) < (Lc.length : Int)) = true := by simpa using hbig
    go_enter Tryd.func4, Tryd.ntmps4
    go_wp2_with fail
    refine (rBig_any _ A cap w hl).mono ?_
    rintro e w1 ⟨rfl, rfl⟩
    rw [hd]; clear hd hbig
    go_wp2_with fail
    go_ret
    exact ⟨rfl, Below.refl _ _⟩
  have hd : decide ((65536 : Int) < (Lc.length : Int)) = false := by simpa using hbig
  go_enter Tryd.func4, Tryd.ntmps4
  go_wp2_with fail
  refine (rBig_any _ A cap w hl).mono ?_
  rintro e wj ⟨rfl, rfl⟩
  rw [hd]; clear hd hbig
  have BJ : Below w.heap.size w w := Below.refl _ _
  obtain ⟨wj, hwj⟩ : ∃ wj, wj = w := ⟨_, rfl⟩
  have hcj : CodeIs wj A Lc := hwj ▸ hc
  have BJ : Below w.heap.size w wj := hwj ▸ BJ
  go_wp2_with fail
  rw [← hwj]; clear hwj
  refine (DrawAddStock_any A Lc cap _ hcj).mono ?_
  rintro e wj ⟨AL, nL, cL, L, s, n, rfl, hs2, rfl, zL, nilL, kOk, RL, b1⟩
  have BJ := below_step BJ b1 (Nat.le_refl _); have hcj := hcj.later b1; clear b1
  have hsl := stockL_len L s n; have hsb := fun h => stock_back (s := s) (n := n) kOk h
  obtain ⟨V, hV⟩ : ∃ V, V = stockL L s n := ⟨_, rfl⟩
  obtain ⟨ob, hob⟩ : ∃ ob, ob = addB L s n := ⟨_, rfl⟩
  rw [← hV] at hsl hsb; rw [← hob] at hsb; have HV := hide hV; have HOB := hide hob; have HSB := hide hsb; clear hV hob hsb
  go_wp2_with fail
  refine (AddStock_any L s n _ _ _ RL kOk (by unfold maxLen; omega)).mono ?_
  rintro e wj ⟨Au, cu, rfl, hou, b1⟩
  have BJ := below_step BJ b1 (Nat.le_refl _); have hcj := hcj.later b1; replace RL := Rd.later RL b1
  have Ru := Own.rd_of Part.enc_len hou; clear hou b1
  rw [← HV.out, ← HOB.out]
  rw [← HV.out] at Ru
  go_wp2_with fail
  refine (AddStock_spec L s n _ _ _ RL kOk (by unfold maxLen; omega)).mono ?_
  rintro e wj ⟨Av, cv, rfl, hov, b1⟩
  have BJ := below_step BJ b1 (Nat.le_refl _); have hcj := hcj.later b1; replace RL := Rd.later RL b1; replace Ru := Rd.later Ru b1
  have Rv := Own.rd_of Part.enc_len hov; clear hov b1
  rw [← HV.out, ← HOB.out]
  rw [← HV.out] at Rv
  go_wp2_with fail
  refine (rParts_same V V.length rfl _ _ _ _ _ (by omega) Ru Rv).mono ?_
  rintro e wj ⟨rfl, b1⟩
  have BJ := below_step BJ b1 (Nat.le_refl _); have hcj := hcj.later b1; replace RL := Rd.later RL b1; replace Ru := Rd.later Ru b1
  clear b1 Rv
  go_upto_if 65 with fail
  go_cut [10, 11] (fun _ _ wx => Below w.heap.size w wx)
  case first =>
    as_aux_lemma =>
      cases ob
      · go_wp2_with fail
        go_meet
        exact BJ
      · obtain ⟨g1, g2, g3, n1, n2⟩ := HSB.out rfl
        have G1 := hide g1; have G2 := hide g2; have VOK := g3; clear g1 g2 g3
        have hneg : IntKind.i64.wrap (-n) = -n := by rw [IntKind.wrap_i64]; omega
        go_wp2_with fail
        refine (AddStock_any V s (-n) _ _ _ Ru VOK (by unfold maxLen; omega)).mono ?_
        rintro e wj ⟨Ab, cb, rfl, hob, b1⟩
        have BJ := below_step BJ b1 (Nat.le_refl _); have hcj := hcj.later b1; replace RL := Rd.later RL b1
        have Rb := Own.rd_of Part.enc_len hob; clear hob b1
        rw [G2.out, G1.out]
        rw [G2.out] at Rb
        go_wp2_with (go_at_call 13; refine (rParts_same L L.length rfl _ _ _ _ _ (by omega) Rb RL).mono ?_; rintro e wk ⟨rfl, b1⟩; have BJ := below_step BJ b1 (Nat.le_refl _))
        go_meet; exact BJ
  clear RL Ru hcj BJ HV HOB HSB hsl kOk nilL zL hs2
  have BJ := hcut; clear hcut
  as_aux_lemma =>
  have hcj := hc.later BJ
  go_wp2_with fail
  refine (DrawCostOfAll_any A Lc cap _ hcj).mono ?_
  rintro e wj ⟨AL, nL, cL, L, rfl, rfl, zL, nilL, kOk, RL, b1⟩
  have BJ := below_step BJ b1 (Nat.le_refl _); have hcj := hcj.later b1; clear b1
  have hov := orderV_len L; have hcv0 : partsB L = true → costV L = costL L := fun h => by rw [costV, if_pos h]
  have hpl : partsB L = true → orderV L = orderL L := fun h => by rw [orderV, if_pos h]
  obtain ⟨cv, hcv⟩ : ∃ cv, cv = costV L := ⟨_, rfl⟩
  obtain ⟨pb, hpb⟩ : ∃ pb, pb = partsB L := ⟨_, rfl⟩
  rw [← hcv, ← hpb] at hcv0; rw [← hpb] at hpl; have HCV := hide hcv; have HPB := hide hpb; have HC0 := hide hcv0; have HPL := hide hpl; clear hcv hpb hcv0 hpl
  go_wp2_with fail
  refine (CostOfAll_any L _ _ _ RL kOk (by unfold maxLen; omega)).mono ?_
  rintro e wj ⟨rfl, b1⟩
  have BJ := below_step BJ b1 (Nat.le_refl _); have hcj := hcj.later b1; replace RL := Rd.later RL b1
  clear b1
  rw [← HCV.out, ← HPB.out]
  go_wp2_with fail
  refine (CostOfAll_spec L _ _ _ RL kOk (by unfold maxLen; omega)).mono ?_
  rintro e wj ⟨rfl, b1⟩
  have BJ := below_step BJ b1 (Nat.le_refl _); have hcj := hcj.later b1; replace RL := Rd.later RL b1
  clear b1
  rw [← HCV.out, ← HPB.out]
  go_upto_if 102 with fail
  go_cut [17, 18, 19, 20] (fun _ _ _ _ wx => Below w.heap.size w wx)
  case first =>
    as_aux_lemma =>
      cases pb
      · go_wp2_with fail
        go_meet
        exact BJ
      · have hcl := HC0.out rfl; have hor := HPL.out rfl; have hpt := HPB.out.symm
        have HCL := hide hcl; have HOR := hide hor; have HPT := hide hpt
        have hol : (orderL L).length = L.length := by simp [orderL]
        have hl10 : L.length ≤ 10 := by rw [← hol, ← hor]; exact hov
        clear hcl hor hpt hov
        go_wp2_with fail
        refine (ToOrder_any L _ _ _ RL kOk (by unfold maxLen; omega)).mono ?_
        rintro e wj ⟨Ao, co, rfl, hoo, b1⟩
        have BJ := below_step BJ b1 (Nat.le_refl _); have hcj := hcj.later b1; replace RL := Rd.later RL b1
        have Ro := Own.rd_of encI_len hoo; clear hoo b1
        rw [HOR.out, HPT.out, hol]
        rw [HOR.out] at Ro
        go_wp2_with fail
        go_loopw [20, 19] (fun i x wr => ∃ k : Nat, k ≤ L.length ∧ i = .int .i64 k ∧ x = .int .i64 (costL (L.take k)) ∧ Below wj.heap.size wj wr) (fun i _ _ => L.length - (intOf i).toNat)
        case atStart => exact ⟨0, Nat.zero_le _, rfl, by simp [costL], Below.refl _ _⟩
        case round =>
          obtain ⟨k, hk, rfl, rfl, hbel⟩ := hrel
          have BK := below_step BJ hbel (Nat.le_refl _)
          by_cases hlt : k < L.length
          · have hki : (k : Int) < (L.length : Int) := by omega
            obtain ⟨bL, oL, rfl, _, hcL⟩ := Part.rd_at (Rd.later RL hbel) (by intro h; subst h; simp at hlt)
            obtain ⟨bO, oO, hAo, _, hcO⟩ := rd_int (Rd.later Ro hbel) (by intro h; rw [h] at hol; simp at hol; omega)
            subst hAo
            have hg := List.getElem?_eq_getElem hlt
            obtain ⟨_, _, _, _, y4⟩ := hcL k _ hg
            have yo := hcO k _ (orderL_at hg)
            obtain ⟨⟨m0, m1⟩, p0, p1⟩ := miss_bd HPT.out hg
            obtain ⟨s0, s1⟩ := cost_bd HPT.out k hk
            have hst := cost_step hg
            generalize L[k] = c at *
            obtain ⟨P, hP⟩ : ∃ P, P = missOf c * c.price := ⟨_, rfl⟩
            rw [← hP] at p0 p1 hst; have HST := hide hst; clear hst
            generalize missOf c = m at *; generalize costL (L.take k) = S at *
            have hw1 : IntKind.i64.wrap (m * c.price) = P := by rw [IntKind.wrap_i64]; omega
            have hw2 : IntKind.i64.wrap (S + P) = S + P := by rw [IntKind.wrap_i64]; omega
            have a0 := after_cell y4; have a1 := after_cell yo
            clear hP hg hcL hcO
            go_wp2_with fail
            refine wp_region_after (by kernel_rfl) (by kernel_rfl) ?_
            repeat (go_big_quiet_step (fail))
            refine wpQuiet_nil ?_
            rintro W3 ⟨⟨_, hb3⟩, rfl⟩
            clear a0 a1
            go_wp2_with fail
            go_roundw
            case rel => exact ⟨k + 1, by omega, by go_num, by rw [HST.out] <;> first | rfl | (rw [hw1, hw2]) | (rw [hw2]), below_step hbel hb3 (Nat.le_refl _)⟩
            case measure => simp [intOf] <;> omega
          · obtain rfl : k = L.length := by omega
            rw [List.take_length, ← HCL.out]
            go_wp2_with fail
            go_meet; exact BK
  clear RL hcj BJ HCV HPB HC0 HPL hov kOk nilL zL
  have BJ := hcut; clear hcut
  as_aux_lemma =>
  have hcj := hc.later BJ
  go_wp2_with fail
  refine (DrawDearestPart_any A Lc cap _ hcj).mono ?_
  rintro e wj ⟨AL, nL, cL, L, rfl, rfl, zL, nilL, kOk, RL, b1⟩
  have BJ := below_step BJ b1 (Nat.le_refl _); have hcj := hcj.later b1; clear b1
  have hda := fun (h : dearB L = true) (j : Nat) (c : Part) (hj : L[j]? = some c) => dear_all h hj
  obtain ⟨dn, hdn⟩ : ∃ dn, dn = dearN L := ⟨_, rfl⟩
  obtain ⟨dv, hdv⟩ : ∃ dv, dv = dearV L := ⟨_, rfl⟩
  obtain ⟨db, hdb⟩ : ∃ db, db = dearB L := ⟨_, rfl⟩
  rw [← hdn, ← hdv, ← hdb] at hda; have HDN := hide hdn; have HDV := hide hdv; have HDB := hide hdb; have HDA := hide hda; clear hdn hdv hdb hda
  go_wp2_with fail
  refine (DearestPart_any L _ _ _ RL kOk (by unfold maxLen; omega)).mono ?_
  rintro e wj ⟨rfl, b1⟩
  have BJ := below_step BJ b1 (Nat.le_refl _); have hcj := hcj.later b1; replace RL := Rd.later RL b1
  clear b1
  rw [← HDN.out, ← HDV.out, ← HDB.out]
  go_wp2_with fail
  refine (DearestPart_spec L _ _ _ RL kOk (by unfold maxLen; omega)).mono ?_
  rintro e wj ⟨rfl, b1⟩
  have BJ := below_step BJ b1 (Nat.le_refl _); have hcj := hcj.later b1; replace RL := Rd.later RL b1
  clear b1
  rw [← HDN.out, ← HDV.out, ← HDB.out]
  go_wp2_with fail
  go_loopw [28] (fun i wr => ∃ k : Nat, k ≤ L.length ∧ i = .int .i64 k ∧ Below wj.heap.size wj wr) (fun i _ => L.length - (intOf i).toNat)
  case atStart => exact ⟨0, Nat.zero_le _, rfl, Below.refl _ _⟩
  case round =>
    obtain ⟨k, hk, rfl, hbel⟩ := hrel
    have BK := below_step BJ hbel (Nat.le_refl _)
    by_cases hlt : k < L.length
    · have hki : (k : Int) < (L.length : Int) := by omega
      cases db
      · skip
        clear RL hcj HDN HDV HDB HDA kOk nilL zL
        have hcj := hc.later BK
        go_wp2_with fail
        refine (DrawPartsLine_any A Lc cap _ hcj).mono ?_
        rintro e w4 ⟨c, rfl, hco, b1⟩
        have B4 := below_step BK b1 (Nat.le_refl _)
        clear b1 hcj
        obtain ⟨pv, hpv⟩ : ∃ pv, pv = ptxV c := ⟨_, rfl⟩
        obtain ⟨sb, hsb⟩ : ∃ sb, sb = stockB c := ⟨_, rfl⟩
        have HPV := hide hpv; have HSB := hide hsb; have HCO := hide hco; clear hpv hsb hco
        have hbx : Below w4.heap.size w4 (w4.alloc (.cells #[.string c.name, .int .i64 c.have_, .int .i64 c.least, .int .i64 c.lead, .int .i64 c.price] 27)) := (Below.refl _ _).alloc (Nat.le_refl _) _
        have B5 := below_step B4 hbx (Nat.le_refl _)
        have z0 : (w4.alloc (.cells #[.string c.name, .int .i64 c.have_, .int .i64 c.least, .int .i64 c.lead, .int .i64 c.price] 27)).cell? ⟨w4.heap.size, 0, none⟩ = some (.string c.name) := cell_new w4 #[.string c.name, .int .i64 c.have_, .int .i64 c.least, .int .i64 c.lead, .int .i64 c.price] 27 w4.heap.size 0 _ rfl rfl
        have z1 : (w4.alloc (.cells #[.string c.name, .int .i64 c.have_, .int .i64 c.least, .int .i64 c.lead, .int .i64 c.price] 27)).cell? ⟨w4.heap.size, 1, none⟩ = some (.int .i64 c.have_) := cell_new w4 #[.string c.name, .int .i64 c.have_, .int .i64 c.least, .int .i64 c.lead, .int .i64 c.price] 27 w4.heap.size 1 _ rfl rfl
        have z2 : (w4.alloc (.cells #[.string c.name, .int .i64 c.have_, .int .i64 c.least, .int .i64 c.lead, .int .i64 c.price] 27)).cell? ⟨w4.heap.size, 2, none⟩ = some (.int .i64 c.least) := cell_new w4 #[.string c.name, .int .i64 c.have_, .int .i64 c.least, .int .i64 c.lead, .int .i64 c.price] 27 w4.heap.size 2 _ rfl rfl
        have z3 : (w4.alloc (.cells #[.string c.name, .int .i64 c.have_, .int .i64 c.least, .int .i64 c.lead, .int .i64 c.price] 27)).cell? ⟨w4.heap.size, 3, none⟩ = some (.int .i64 c.lead) := cell_new w4 #[.string c.name, .int .i64 c.have_, .int .i64 c.least, .int .i64 c.lead, .int .i64 c.price] 27 w4.heap.size 3 _ rfl rfl
        have z4 : (w4.alloc (.cells #[.string c.name, .int .i64 c.have_, .int .i64 c.least, .int .i64 c.lead, .int .i64 c.price] 27)).cell? ⟨w4.heap.size, 4, none⟩ = some (.int .i64 c.price) := cell_new w4 #[.string c.name, .int .i64 c.have_, .int .i64 c.least, .int .i64 c.lead, .int .i64 c.price] 27 w4.heap.size 4 _ rfl rfl
        go_wp2_with fail
        refine (PartsLine_any c _ HCO.out (HT.out.below B5)).mono ?_
        rintro e w5 ⟨rfl, b1⟩
        rw [← HPV.out, ← HSB.out]
        have B6 := below_step B5 b1 (Nat.le_refl _)
        replace z0 := below_cell b1 z0; replace z1 := below_cell b1 z1; replace z2 := below_cell b1 z2; replace z3 := below_cell b1 z3; replace z4 := below_cell b1 z4; clear b1
        go_wp2_with fail
        refine (PartsLine_spec c _ HCO.out).mono ?_
        rintro e w6 ⟨rfl, b1⟩
        rw [← HPV.out, ← HSB.out]
        have B7 := below_step B6 b1 (Nat.le_refl _)
        go_wp2_with fail
        go_ret
        exact ⟨by first | rfl | (refine ret_bool ?_; simp), B7⟩
      · obtain ⟨bL, oL, rfl, _, hcL⟩ := Part.rd_at (Rd.later RL hbel) (by intro h; subst h; simp at hlt)
        have hg := List.getElem?_eq_getElem hlt
        obtain ⟨y0, y1, _, _, y4⟩ := hcL k _ hg
        obtain ⟨q1, q2, q3, q4⟩ := HDA.out rfl k _ hg
        generalize L[k] = c at *
        obtain ⟨P, hP⟩ : ∃ P, P = c.have_ * c.price := ⟨_, rfl⟩
        rw [← hP] at q1 q2 q3 q4
        have hw1 : IntKind.i64.wrap (c.have_ * c.price) = P := by rw [IntKind.wrap_i64]; omega
        have hd1 : decide (dv < P) = false := decide_eq_false (by omega)
        have a0 := after_cell y0; have a1 := after_cell y1; have a2 := after_cell y4
        clear hP hg hcL
        cases hb0 : (c.name.toList == dn.toList)
        · have HB0 := hide hb0
          clear q2
          go_wp2_with fail
          refine wp_region_after (by kernel_rfl) (by kernel_rfl) ?_
          repeat (go_big_quiet_step (fail))
          refine wpQuiet_nil ?_
          rintro W3 ⟨⟨_, hb3⟩, rfl⟩
          clear a0 a1 a2
          go_wp2_with fail
          go_roundw
          case rel => exact ⟨k + 1, by omega, by go_num, below_step hbel hb3 (Nat.le_refl _)⟩
          case measure => simp [intOf] <;> omega
        · have HB0 := hide hb0
          have hd3 : (P != dv) = false := by have := q2 hb0; simp [this]
          clear q2
          go_wp2_with fail
          refine wp_region_after (by kernel_rfl) (by kernel_rfl) ?_
          repeat (go_big_quiet_step (fail))
          refine wpQuiet_nil ?_
          rintro W3 ⟨⟨_, hb3⟩, rfl⟩
          clear a0 a1 a2
          go_wp2_with fail
          go_roundw
          case rel => exact ⟨k + 1, by omega, by go_num, below_step hbel hb3 (Nat.le_refl _)⟩
          case measure => simp [intOf] <;> omega
    · obtain rfl : k = L.length := by omega
      clear RL hcj HDN HDV HDB HDA kOk nilL zL
      have hcj := hc.later BK
      go_wp2_with fail
      refine (DrawPartsLine_any A Lc cap _ hcj).mono ?_
      rintro e w4 ⟨c, rfl, hco, b1⟩
      have B4 := below_step BK b1 (Nat.le_refl _)
      clear b1 hcj
      obtain ⟨pv, hpv⟩ : ∃ pv, pv = ptxV c := ⟨_, rfl⟩
      obtain ⟨sb, hsb⟩ : ∃ sb, sb = stockB c := ⟨_, rfl⟩
      have HPV := hide hpv; have HSB := hide hsb; have HCO := hide hco; clear hpv hsb hco
      have hbx : Below w4.heap.size w4 (w4.alloc (.cells #[.string c.name, .int .i64 c.have_, .int .i64 c.least, .int .i64 c.lead, .int .i64 c.price] 27)) := (Below.refl _ _).alloc (Nat.le_refl _) _
      have B5 := below_step B4 hbx (Nat.le_refl _)
      have z0 : (w4.alloc (.cells #[.string c.name, .int .i64 c.have_, .int .i64 c.least, .int .i64 c.lead, .int .i64 c.price] 27)).cell? ⟨w4.heap.size, 0, none⟩ = some (.string c.name) := cell_new w4 #[.string c.name, .int .i64 c.have_, .int .i64 c.least, .int .i64 c.lead, .int .i64 c.price] 27 w4.heap.size 0 _ rfl rfl
      have z1 : (w4.alloc (.cells #[.string c.name, .int .i64 c.have_, .int .i64 c.least, .int .i64 c.lead, .int .i64 c.price] 27)).cell? ⟨w4.heap.size, 1, none⟩ = some (.int .i64 c.have_) := cell_new w4 #[.string c.name, .int .i64 c.have_, .int .i64 c.least, .int .i64 c.lead, .int .i64 c.price] 27 w4.heap.size 1 _ rfl rfl
      have z2 : (w4.alloc (.cells #[.string c.name, .int .i64 c.have_, .int .i64 c.least, .int .i64 c.lead, .int .i64 c.price] 27)).cell? ⟨w4.heap.size, 2, none⟩ = some (.int .i64 c.least) := cell_new w4 #[.string c.name, .int .i64 c.have_, .int .i64 c.least, .int .i64 c.lead, .int .i64 c.price] 27 w4.heap.size 2 _ rfl rfl
      have z3 : (w4.alloc (.cells #[.string c.name, .int .i64 c.have_, .int .i64 c.least, .int .i64 c.lead, .int .i64 c.price] 27)).cell? ⟨w4.heap.size, 3, none⟩ = some (.int .i64 c.lead) := cell_new w4 #[.string c.name, .int .i64 c.have_, .int .i64 c.least, .int .i64 c.lead, .int .i64 c.price] 27 w4.heap.size 3 _ rfl rfl
      have z4 : (w4.alloc (.cells #[.string c.name, .int .i64 c.have_, .int .i64 c.least, .int .i64 c.lead, .int .i64 c.price] 27)).cell? ⟨w4.heap.size, 4, none⟩ = some (.int .i64 c.price) := cell_new w4 #[.string c.name, .int .i64 c.have_, .int .i64 c.least, .int .i64 c.lead, .int .i64 c.price] 27 w4.heap.size 4 _ rfl rfl
      go_wp2_with fail
      refine (PartsLine_any c _ HCO.out (HT.out.below B5)).mono ?_
      rintro e w5 ⟨rfl, b1⟩
      rw [← HPV.out, ← HSB.out]
      have B6 := below_step B5 b1 (Nat.le_refl _)
      replace z0 := below_cell b1 z0; replace z1 := below_cell b1 z1; replace z2 := below_cell b1 z2; replace z3 := below_cell b1 z3; replace z4 := below_cell b1 z4; clear b1
      go_wp2_with fail
      refine (PartsLine_spec c _ HCO.out).mono ?_
      rintro e w6 ⟨rfl, b1⟩
      rw [← HPV.out, ← HSB.out]
      have B7 := below_step B6 b1 (Nat.le_refl _)
      go_wp2_with fail
      go_ret
      exact ⟨by first | rfl | (refine ret_bool ?_; simp), B7⟩
open Go.ChangeShapes Go.WideShapes Go.ChangeAt Go.RowKit
open Go.ChangeMaps (open_string shut_string)
theorem elU8 {H : Type} {enc : TypeId × Value → H} {w : World} {base : Nat} {spare : Nat → Bool} {held : Bool} (n : Nat) (cs : List Value) (y : DataW H × List MemPlace) (h : DataW.trod enc Tryd.prog w base spare held n 5 cs = some y) : ∃ c : Int, cs = encU8 c ∧ 0 ≤ c ∧ c < 256 := by
  obtain ⟨k, hk, _, hw⟩ := DataW.trod_int Tryd.underlying5 h
  have hw2 : 0 ≤ k ∧ k ≤ 255 := by simpa [Lit.wf, IntKind.min, IntKind.max, IntKind.bits, IntKind.signed] using hw
  exact ⟨k, hk, by omega, by omega⟩
theorem gT : Tryd.prog.globalNamed "internal/strconv.uint64pow10" = some 0 := by kernel_rfl
theorem gTT : (Tryd.prog.globals[0]?).map (·.type) = some 77 := by kernel_rfl
theorem cT : Tryd.prog.cellsOf 77 = 20 := by kernel_rfl
theorem cE : Tryd.prog.cellsOf 50 = 1 := by kernel_rfl
theorem tab10 {W : World} (h : laidMetH Tryd.prog Rows.fnStockRow.laid W) : Tab10 W := by
  rw [MakeChecks.laidMetH_plain _ _ _ (by kernel_rfl)] at h
  exact Lib.tabIs_of_head gT gTT Tryd.underlying77 Tryd.underlying50 cE cT (laidMet.tail (laidMet.tail h))
/- a world for the witness: the settled one, each listed variable's block holding what its initialiser lays -/
def litV {H : Type} : DataW H → Value
  | .lit (.int k n) => .int k n
  | .lit (.string b) => .string ⟨b.toArray⟩
  | _ => .bool false
def cellsD {H : Type} : DataW H → Array Value
  | .agg l => (l.map litV).toArray
  | _ => #[]
def putD (d : DataW Unit) : Obj → Obj
  | .cells _ t frozen => .cells (cellsD d) t frozen
  | o => o
noncomputable def laidWorld (os : Os) : World := { World.holding Tryd.prog os ⟨#[], #[], []⟩ with heap := ((((World.holding Tryd.prog os ⟨#[], #[], []⟩).heap.modify 1 (putD Rows.laid_math_bits_deBruijn32tab)).modify 2 (putD Rows.laid_math_bits_deBruijn64tab)).modify 0 (putD Rows.laid_internal_strconv_uint64pow10)) }
theorem laid_met (os : Os) : laidMet Tryd.prog Rows.fnStockRow.laid ((laidWorld os).forCall (fun _ _ => 0) ⟨#[], #[.slice none 0 0], []⟩).memory := laidMet_of_run' 8 (by kernel_rfl) (by kernel_rfl)
theorem reads (os : Os) {H : Type} (enc : TypeId × Value → H) : ∃ places, DataW.whole enc Tryd.prog ((laidWorld os).forCall (fun _ _ => 0) ⟨#[], #[.slice none 0 0], []⟩).memory Tryd.f4.params.toList Rows.fnStockSpec.vars false (#[.slice none 0 0] : Array Value).toList 8 = some ([.nil], [], places) :=
  ⟨[], by kernel_rfl⟩
set_option maxRecDepth 100000 in
theorem lifted (os : Os) (started : os.Started) (H : Type) (enc : TypeId × Value → H) (F : Stop.Interp) :
    ReturnsInHanded {} Tryd.checked os 4 .any ((OpenSpec.ofChange Rows.fnStockSpec).preRow enc Tryd.prog Tryd.f4 Rows.fnStockRow.domain false Rows.fnStockRow.laid) (((OpenSpec.ofChange Rows.fnStockSpec).at F).post enc Tryd.prog Tryd.f4 false true false false) := by
  obtain ⟨places, hx⟩ := reads os enc
  refine returnsInHanded_of_row (C := Tryd.checked) (s := OpenSpec.ofChange Rows.fnStockSpec) own started (by kernel_rfl) Tryd.func4
    (witness_row_at (enc := enc) (C := Tryd.checked) false (laidWorld os) #[.slice none 0 0] rfl (by kernel_rfl) (by kernel_rfl) (by kernel_rfl)
      (OpenSpec.preRow_of_cond 8 hx (by kernel_rfl) (fun k hk => by cases hk) (by kernel_rfl) (laid_met os))) ?_
  intro W base args ds gs before hval0 hW _ _ _ hL _ _
  have hval : ∀ (j : Nat) t v, Tryd.f4.params[j]? = some t → args[j]? = some v → Value.okWide Tryd.prog W .any base t v := hval0
  have hW' := hW
  obtain ⟨p, q, hA0, hV, rfl, hfz, hnd⟩ := hW
  have hA : DataW.TrodAll enc Tryd.prog W 0 (fun _ => true) true Tryd.f4.params.toList args.toList ds p := hA0
  rw [Tryd.params4] at hA hval
  obtain ⟨v0, vs0, d0, ds0, p0, q0, hargs, rfl, rfl, h0, e0⟩ := trodAll_cons hA
  obtain ⟨rfl, rfl, rfl⟩ := trodAll_nil e0
  obtain rfl : args = #[v0] := by cases args; simp_all
  obtain ⟨rfl, rfl⟩ := trodVars_none hV
  have k0 := h0
  have lt0 : ∀ x ∈ p0, x.block < W.heap.size := by obtain ⟨m, hm⟩ := k0; exact DataW.trod_lt m _ _ _ hm
  obtain ⟨A0, len0, c0, rfl⟩ := okWide_slice Tryd.underlying30 (hval 0 30 v0 rfl rfl)
  obtain ⟨fu0, hf0⟩ := h0
  obtain ⟨L0, rfl, r0, g0, l0⟩ := open_list (encα := encU8) (m := 1) (Good := fun c => 0 ≤ c ∧ c < 256) Tryd.underlying30 (by kernel_rfl) (by decide) encU8_len elU8 hf0
  clear hA0 hval0
  refine (walk L0 A0 c0 W ⟨l0, g0, r0⟩ (tab10 hL)).mono fun e W' ⟨he, bel⟩ => ?_
  subst he
  exact ⟨_, rfl, _, _, _, [], _, [], hW', trodAll_mk1 (shut_bool Tryd.underlying4 _), (trodAll_cons_mk (Below.trod laidOut (by kernel_rfl) (of_decide_eq_true (by kernel_rfl)) k0 bel lt0) trodAll_mk0), rfl, bel.frame _, fun h => by cases h⟩
theorem said : Rows.FnStockSaid :=
  OpenClaim.holds_of_cond 4 Tryd.f4 rfl rfl rfl rfl rfl rfl rfl ⟨rfl, rfl, rfl, rfl, rfl⟩ rfl rfl rfl rfl rfl (by kernel_rfl) Tryd.func4 (by kernel_rfl)
    (of_decide_eq_true (by kernel_rfl)) (by unfold Func.isWrapper; first | (rw [if_pos (by decide +kernel)]; kernel_rfl) | (rw [if_neg (by decide +kernel)]; exact ⟨rfl, rfl⟩))
    (fun os started H enc _ F => by rw [OpenClaim.pre_eq_preRow]; exact lifted os started H enc F)
theorem plain (f : FuncId) (fn : Func) (hf : Tryd.pinned.checked.prog.funcNamed "loop.example/g00935/laws.FnStock" = some f) (hfn : Tryd.pinned.checked.prog.funcs[f]? = some fn) :
    false = Tryd.pinned.checked.prog.looks [] ∧ ∀ (j : Nat) t, fn.params[j]? = some t → Tryd.pinned.checked.prog.wantsStandIn t = false := by
  obtain rfl : f = 4 := Option.some.inj ((show Tryd.prog.funcNamed "loop.example/g00935/laws.FnStock" = some 4 by kernel_rfl).symm.trans hf) |>.symm
  obtain rfl : fn = Tryd.f4 := (Option.some.inj (Tryd.func4.symm.trans hfn)).symm
  refine ⟨by kernel_rfl, fun j t ht => ?_⟩
  rw [Tryd.params4] at ht
  have hm : t ∈ [30] := by simpa using Array.mem_of_getElem? ht
  have hall : ([30].all fun u => !Tryd.prog.wantsStandIn u) = true := by kernel_rfl
  exact (show Tryd.prog.wantsStandIn t = false by simpa using List.all_eq_true.1 hall t hm)
theorem proved : Rows.FnStockCardSaid :=
  Claim7.holds_tied_plain_at .later [] _ _ _ _ said (fun _ h => by cases h) (by kernel_rfl) (fun _ h => by cases h) fnStock_row_tie rfl ⟨rfl, rfl⟩ (by kernel_rfl) rfl plain (by kernel_rfl)
#print axioms proved
end Go.Proofs.YtlphegjhkchglaaDoor.lawStock
