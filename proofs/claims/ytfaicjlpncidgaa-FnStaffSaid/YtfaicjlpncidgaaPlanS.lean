/- Plans: whether staff and a plan are valid, the reference's function. -/
import Derived.Test.YtfaicjlpncidgaaPlan
namespace Go.Proofs.Ytfaicjlpncidgaa
open Go Go.RowKit
def hasT (staff : List Worker) (plan : List Shift) (s : Shift) : Bool := match staff.find? (isId s.who) with
  | none => false
  | some k => !(bits .and .i64 k.duties s.duty == 0) && !decide (k.hours < hoursL plan s.who)
def oneT (staff : List Worker) (plan : List Shift) (s : Shift) : Bool := partB s.day s.part && (dutyB s.duty && hasT staff plan s)
def ltT (d c : Shift) : Bool := !(decide (atS c < atS d) || (atS d == atS c && decide (c.who ≤ d.who)))
def closeT (s o : Shift) : Bool := o.who == s.who && decide (atS s - atS o < 2)
def planTAt (staff : List Worker) (plan : List Shift) (i : Nat) : Bool := riseAt (oneT staff plan) ltT plan i && (match plan[i]? with
  | none => true
  | some s => !((plan.take i).any (closeT s)))
def planT (staff : List Worker) (plan : List Shift) : Bool := staffB staff && (decide (plan.length ≤ 40) && allAt (planTAt staff plan) plan.length)
theorem l22Find_is {L : List Worker} {id z : Int} (h : idxF (isId id) L = z) (A : Option Addr) (cap : Nat) (w : World) (hr : Rd Worker.enc 4 w.heap.size w A L) (hl : L.length ≤ 1000000) :
    Calls Try.prog 79 #[.slice A L.length cap, .int .i64 id] w fun e w' => e = .returned (.int .i64 z) ∧ w = w' := h ▸ l22Find_any L A cap id w hr hl
theorem l22Staff_is {L : List Worker} {b : Bool} (h : staffB L = b) (A : Option Addr) (cap : Nat) (w : World) (hr : Rd Worker.enc 4 w.heap.size w A L) (hok : ∀ c ∈ L, c.Ok) (hl : L.length ≤ maxLen) :
    Calls Try.prog 62 #[.slice A L.length cap] w fun e w' => e = .returned (.bool b) ∧ Below w.heap.size w w' := h ▸ l22Staff_any L A cap w hr hok hl
theorem l22Part_is {d p : Int} {b : Bool} (h : partB d p = b) (w : World) : Calls Try.prog 93 #[.int .i64 d, .int .i64 p] w fun e w' => e = .returned (.bool b) ∧ w = w' := h ▸ l22Part_any d p w
theorem l22Duty_is {d : Int} {b : Bool} (h : dutyB d = b) (w : World) : Calls Try.prog 94 #[.int .i64 d] w fun e w' => e = .returned (.bool b) ∧ w = w' := h ▸ l22Duty_any d w
theorem l22At_bd (c : Shift) (w : World) (h : Hid (Bd c)) : Calls Try.prog 99 #[.agg #[.int .i64 c.day, .int .i64 c.part, .int .i64 c.who, .int .i64 c.duty]] w fun e w' => e = .returned (.int .i64 (atS c)) ∧ Below w.heap.size w w' :=
  l22At_any c w h.out.1.1 h.out.1.2 h.out.2.1 h.out.2.2
theorem planT_no {staff : List Worker} {plan : List Shift} {k : Nat} (h : k < plan.length) (hp : planTAt staff plan k = false) : planT staff plan = false := by
  simp [planT, allAt_no h hp]
theorem planTAt_rise {staff : List Worker} {plan : List Shift} {k : Nat} (h : riseAt (oneT staff plan) ltT plan k = false) : planTAt staff plan k = false := by simp [planTAt, h]
theorem planTAt_adj {staff : List Worker} {plan : List Shift} {k : Nat} {s : Shift} (hs : plan[k]? = some s) (h : (plan.take k).any (closeT s) = true) : planTAt staff plan k = false := by simp only [planTAt, hs, h]; simp
theorem planTAt_yes {staff : List Worker} {plan : List Shift} {k : Nat} {s : Shift} (hs : plan[k]? = some s) (h1 : riseAt (oneT staff plan) ltT plan k = true) (h : (plan.take k).any (closeT s) = false) : planTAt staff plan k = true := by simp only [planTAt, hs, h, h1]; simp
theorem uptoT_bd {staff : List Worker} {plan : List Shift} {k : Nat} (h : ∀ j, j < k → planTAt staff plan j = true) {j : Nat} {c : Shift} (hj : j < k) (hc : plan[j]? = some c) : Bd c := by
  have := h j hj
  simp only [planTAt, Bool.and_eq_true, riseAt, hc, oneT] at this
  exact partB_bd this.1.1.1
theorem close_yes {plan : List Shift} {s c : Shift} {j k : Nat} (hj : j < k) (hc : plan[j]? = some c) (h : closeT s c = true) : (plan.take k).any (closeT s) = true := by
  rw [List.any_eq_true]; exact ⟨c, List.mem_of_getElem? (i := j) (by rw [List.getElem?_take]; simp [hj, hc]), h⟩
theorem close_no {plan : List Shift} {s : Shift} {k : Nat} (h : ∀ (j : Nat) (c : Shift), j < k → plan[j]? = some c → closeT s c = false) : (plan.take k).any (closeT s) = false := by
  rw [List.any_eq_false]; intro c hc
  obtain ⟨j, hj, rfl⟩ := List.mem_iff_getElem.1 hc
  have hj2 : j < k ∧ j < plan.length := by rw [List.length_take] at hj; omega
  simpa [List.getElem_take] using h j _ hj2.1 (List.getElem?_eq_getElem hj2.2)

set_option maxRecDepth 100000 in
set_option maxHeartbeats 4000000 in
theorem l22Plan_any (staff : List Worker) (plan : List Shift) (A0 A1 : Option Addr) (c0 c1 : Nat) (w : World) (r0 : Rd Worker.enc 4 w.heap.size w A0 staff) (r1 : Rd Shift.enc 4 w.heap.size w A1 plan) (ok0 : ∀ c ∈ staff, c.Ok) (l0 : staff.length ≤ maxLen) (l1 : plan.length ≤ maxLen) :
    Calls Try.prog 68 #[.slice A0 staff.length c0, .slice A1 plan.length c1] w fun e w' => e = .returned (.bool (planT staff plan)) ∧ Below w.heap.size w w' := by
  have l0' := hide l0
  unfold maxLen at l0 l1
  cases hst : staffB staff
  · go_enter Try.func68, Try.ntmps68
    go_wp2_with (go_at_call 62; refine (l22Staff_is hst _ _ _ r0 ok0 l0'.out).mono ?_; rintro e w1 ⟨rfl, hb1⟩)
    go_ret
    exact ⟨ret_bool (by simp [planT, hst]), hb1⟩
  · by_cases h40 : (40 : Int) < (plan.length : Int)
    · go_enter Try.func68, Try.ntmps68
      go_wp2_with (go_at_call 62; refine (l22Staff_is hst _ _ _ r0 ok0 l0'.out).mono ?_; rintro e w1 ⟨rfl, hb1⟩)
      go_ret
      exact ⟨ret_bool (by simp [planT]; omega), hb1⟩
    · have hst' := hide hst
      replace l0 : staff.length ≤ 1000000 := by have := riseB_len hst; omega
      replace l1 : plan.length ≤ 1000000 := by omega
      clear hst
      go_enter Try.func68, Try.ntmps68
      go_wp2_with (go_at_call 62; refine (l22Staff_is hst'.out _ _ _ r0 ok0 l0'.out).mono ?_; rintro e w1 ⟨rfl, B1⟩)
      go_loopw [5] (fun i wr => ∃ k : Nat, k ≤ plan.length ∧ i = .int .i64 k ∧ Hid (∀ j, j < k → planTAt staff plan j = true) ∧ Below w.heap.size w wr) (fun i _ => plan.length - (intOf i).toNat)
      case atStart => exact ⟨0, Nat.zero_le _, rfl, hide (fun j hj => absurd hj (Nat.not_lt_zero j)), B1⟩
      case round =>
        obtain ⟨wo, rfl⟩ : ∃ wo : World, wo = wr := ⟨_, rfl⟩
        obtain ⟨k, hk, rfl, hp, hbel⟩ := hrel
        by_cases hlt : k < plan.length
        · obtain ⟨b, o, rfl, hb, hc⟩ := Shift.rd_at r1 (by intro h; subst h; simp at hlt)
          have hget := List.getElem?_eq_getElem hlt
          obtain ⟨y0, y1, y2, y3⟩ := hc k _ hget
          have HCC := hide hc; clear hc
          generalize plan[k] = s at *
          have HG := hide hget; clear hget
          replace y0 := below_cell hbel y0
          replace y1 := below_cell hbel y1
          replace y2 := below_cell hbel y2
          replace y3 := below_cell hbel y3
          have hki : (k : Int) < (plan.length : Int) := by omega
          have hb2 : Below wo.heap.size wo (wo.alloc (.cells #[.int .i64 s.day, .int .i64 s.part, .int .i64 s.who, .int .i64 s.duty] 66)) := (Below.refl _ _).alloc (Nat.le_refl _) _
          have R0 := hide ((r0.later hbel).later hb2)
          have R1 := hide ((r1.later hbel).later hb2)
          have z0 : (wo.alloc (.cells #[.int .i64 s.day, .int .i64 s.part, .int .i64 s.who, .int .i64 s.duty] 66)).cell? ⟨wo.heap.size, 0, none⟩ = some (.int .i64 s.day) := by simp
          have z1 : (wo.alloc (.cells #[.int .i64 s.day, .int .i64 s.part, .int .i64 s.who, .int .i64 s.duty] 66)).cell? ⟨wo.heap.size, 1, none⟩ = some (.int .i64 s.part) := by simp
          have z2 : (wo.alloc (.cells #[.int .i64 s.day, .int .i64 s.part, .int .i64 s.who, .int .i64 s.duty] 66)).cell? ⟨wo.heap.size, 2, none⟩ = some (.int .i64 s.who) := by simp
          have z3 : (wo.alloc (.cells #[.int .i64 s.day, .int .i64 s.part, .int .i64 s.who, .int .i64 s.duty] 66)).cell? ⟨wo.heap.size, 3, none⟩ = some (.int .i64 s.duty) := by simp
          have a0 := after_cell z0
          have a1 := after_cell z1
          have a2 := after_cell z2
          have a3 := after_cell z3
          rcases idxF_cases (isId s.who) staff with ⟨hi, hany⟩ | ⟨kk, wk, hi, hkl, hgk, hpk, _, hno⟩
          · have HI := hide hi; clear hi
            have hfi : staff.find? (isId s.who) = none := by rw [List.find?_eq_none]; intro x hx; have := (List.any_eq_false.1 hany) x hx; simpa using this
            have HF := hide hfi; clear hany hfi
            cases h0 : partB s.day s.part
            · skip
              have HB := hide (show oneT staff plan s = false by simp [oneT, h0])
              go_wp2_with (go_at_call 79; refine (l22Find_is HI.out _ _ _ R0.out l0).mono ?_; rintro e w2 ⟨rfl, rfl⟩)
              refine wp_region_after (by kernel_rfl) (by kernel_rfl) ?_
              repeat (go_big_quiet_step ((first | (go_at_call 93; exact Calls.after_same (l22Part_is (by assumption) _)) | (go_at_call 94; exact Calls.after_same (l22Duty_is (by assumption) _)) | (go_at_call 80; exact Calls.after_same (l22Worked_any plan _ c1 s.who _ (Rd.later R1.out (Subtype.property _)) l1)))))
              refine wpQuiet_nil ?_
              rintro w3 ⟨⟨_, hb4⟩, rfl⟩
              have B3 : Below w.heap.size w w3 := below_step (below_step hbel hb2 (by have := hbel.size; omega)) hb4 (by have := hbel.size; first | (simp; done) | (simp; omega))
              go_wp2_with fail
              go_ret
              exact ⟨ret_bool (planT_no hlt (planTAt_rise (rise_bad HG.out HB.out))).symm, B3⟩
            · cases h1 : dutyB s.duty
              · skip
                have HB := hide (show oneT staff plan s = false by simp [oneT, h1])
                go_wp2_with (go_at_call 79; refine (l22Find_is HI.out _ _ _ R0.out l0).mono ?_; rintro e w2 ⟨rfl, rfl⟩)
                refine wp_region_after (by kernel_rfl) (by kernel_rfl) ?_
                repeat (go_big_quiet_step ((first | (go_at_call 93; exact Calls.after_same (l22Part_is (by assumption) _)) | (go_at_call 94; exact Calls.after_same (l22Duty_is (by assumption) _)) | (go_at_call 80; exact Calls.after_same (l22Worked_any plan _ c1 s.who _ (Rd.later R1.out (Subtype.property _)) l1)))))
                refine wpQuiet_nil ?_
                rintro w3 ⟨⟨_, hb4⟩, rfl⟩
                have B3 : Below w.heap.size w w3 := below_step (below_step hbel hb2 (by have := hbel.size; omega)) hb4 (by have := hbel.size; first | (simp; done) | (simp; omega))
                go_wp2_with fail
                go_ret
                exact ⟨ret_bool (planT_no hlt (planTAt_rise (rise_bad HG.out HB.out))).symm, B3⟩
              · skip
                have HB := hide (show oneT staff plan s = false by simp [oneT, hasT, HF.out])
                go_wp2_with (go_at_call 79; refine (l22Find_is HI.out _ _ _ R0.out l0).mono ?_; rintro e w2 ⟨rfl, rfl⟩)
                refine wp_region_after (by kernel_rfl) (by kernel_rfl) ?_
                repeat (go_big_quiet_step ((first | (go_at_call 93; exact Calls.after_same (l22Part_is (by assumption) _)) | (go_at_call 94; exact Calls.after_same (l22Duty_is (by assumption) _)) | (go_at_call 80; exact Calls.after_same (l22Worked_any plan _ c1 s.who _ (Rd.later R1.out (Subtype.property _)) l1)))))
                refine wpQuiet_nil ?_
                rintro w3 ⟨⟨_, hb4⟩, rfl⟩
                have B3 : Below w.heap.size w w3 := below_step (below_step hbel hb2 (by have := hbel.size; omega)) hb4 (by have := hbel.size; first | (simp; done) | (simp; omega))
                go_wp2_with fail
                go_ret
                exact ⟨ret_bool (planT_no hlt (planTAt_rise (rise_bad HG.out HB.out))).symm, B3⟩
          · have HI := hide hi; clear hi
            have hfi : staff.find? (isId s.who) = some wk := by rw [List.find?_eq_some_iff_getElem]; obtain ⟨hkl', rfl⟩ := List.getElem?_eq_some_iff.1 hgk; exact ⟨hpk, kk, hkl', rfl, fun j hj => by simpa using hno j _ hj (List.getElem?_eq_getElem (by omega))⟩
            have HD := hide (show hasT staff plan s = (!(bits .and .i64 wk.duties s.duty == 0) && !decide (wk.hours < hoursL plan s.who)) by simp [hasT, hfi])
            have hk0 : decide ((kk : Int) < 0) = false := by simp
            have hkk : (kk : Int) < (staff.length : Int) := by omega
            obtain ⟨b', o', rfl, _, hc'⟩ := Worker.rd_at r0 (by intro h; subst h; simp at hkl)
            obtain ⟨v0, v1, v2, v3⟩ := hc' kk _ hgk
            have av2 := after_cell (below_cell hb2 (below_cell hbel v2))
            have av3 := after_cell (below_cell hb2 (below_cell hbel v3))
            clear hfi hno hc' v0 v1 v2 v3
            cases h0 : partB s.day s.part
            · skip
              have HB := hide (show oneT staff plan s = false by simp [oneT, h0])
              go_wp2_with (go_at_call 79; refine (l22Find_is HI.out _ _ _ R0.out l0).mono ?_; rintro e w2 ⟨rfl, rfl⟩)
              refine wp_region_after (by kernel_rfl) (by kernel_rfl) ?_
              repeat (go_big_quiet_step ((first | (go_at_call 93; exact Calls.after_same (l22Part_is (by assumption) _)) | (go_at_call 94; exact Calls.after_same (l22Duty_is (by assumption) _)) | (go_at_call 80; exact Calls.after_same (l22Worked_any plan _ c1 s.who _ (Rd.later R1.out (Subtype.property _)) l1)))))
              refine wpQuiet_nil ?_
              rintro w3 ⟨⟨_, hb4⟩, rfl⟩
              have B3 : Below w.heap.size w w3 := below_step (below_step hbel hb2 (by have := hbel.size; omega)) hb4 (by have := hbel.size; first | (simp; done) | (simp; omega))
              go_wp2_with fail
              go_ret
              exact ⟨ret_bool (planT_no hlt (planTAt_rise (rise_bad HG.out HB.out))).symm, B3⟩
            · cases h1 : dutyB s.duty
              · skip
                have HB := hide (show oneT staff plan s = false by simp [oneT, h1])
                go_wp2_with (go_at_call 79; refine (l22Find_is HI.out _ _ _ R0.out l0).mono ?_; rintro e w2 ⟨rfl, rfl⟩)
                refine wp_region_after (by kernel_rfl) (by kernel_rfl) ?_
                repeat (go_big_quiet_step ((first | (go_at_call 93; exact Calls.after_same (l22Part_is (by assumption) _)) | (go_at_call 94; exact Calls.after_same (l22Duty_is (by assumption) _)) | (go_at_call 80; exact Calls.after_same (l22Worked_any plan _ c1 s.who _ (Rd.later R1.out (Subtype.property _)) l1)))))
                refine wpQuiet_nil ?_
                rintro w3 ⟨⟨_, hb4⟩, rfl⟩
                have B3 : Below w.heap.size w w3 := below_step (below_step hbel hb2 (by have := hbel.size; omega)) hb4 (by have := hbel.size; first | (simp; done) | (simp; omega))
                go_wp2_with fail
                go_ret
                exact ⟨ret_bool (planT_no hlt (planTAt_rise (rise_bad HG.out HB.out))).symm, B3⟩
              · cases h2 : (bits .and .i64 wk.duties s.duty == 0)
                · cases h3 : decide (wk.hours < hoursL plan s.who)
                  · have HO := hide (show oneT staff plan s = true by simp only [oneT, h0, h1, HD.out, h2, h3]; rfl)
                    have HBS := hide (partB_bd h0)
                    rcases Nat.eq_zero_or_pos k with rfl | hk1
                    · have HRISE := hide (rise_first (lt := ltT) HG.out HO.out)
                      simp only [Nat.zero_mul, Nat.add_zero] at y0 y1 y2 y3
                      go_wp2_with (go_at_call 79; refine (l22Find_is HI.out _ _ _ R0.out l0).mono ?_; rintro e w2 ⟨rfl, rfl⟩)
                      refine wp_region_after (by kernel_rfl) (by kernel_rfl) ?_
                      repeat (go_big_quiet_step ((first | (go_at_call 93; exact Calls.after_same (l22Part_is (by assumption) _)) | (go_at_call 94; exact Calls.after_same (l22Duty_is (by assumption) _)) | (go_at_call 80; exact Calls.after_same (l22Worked_any plan _ c1 s.who _ (Rd.later R1.out (Subtype.property _)) l1)))))
                      refine wpQuiet_nil ?_
                      rintro w3 ⟨⟨_, hb4⟩, rfl⟩
                      have B3 : Below w.heap.size w w3 := below_step (below_step hbel hb2 (by have := hbel.size; omega)) hb4 (by have := hbel.size; first | (simp; done) | (simp; omega))
                      have t0 := below_cell hb4 z0
                      have t1 := below_cell hb4 z1
                      have t2 := below_cell hb4 z2
                      have t3 := below_cell hb4 z3
                      clear a0 a1 a2 a3 av2 av3 z0 z1 z2 z3 y0 y1 y2 y3 h0 h1 h2 h3 hpk hgk hkl hkk hk0
                      have d0 := after_cell t0
                      have d1 := after_cell t1
                      have d2 := after_cell t2
                      have d3 := after_cell t3
                      go_wp2_with fail
                      refine wp_region_after (by kernel_rfl) (by kernel_rfl) ?_
                      repeat (go_big_quiet_step (fail))
                      refine wpQuiet_nil ?_
                      rintro w5 ⟨⟨_, hb5⟩, rfl⟩
                      have B5 : Below w.heap.size w w5 := below_step B3 hb5 (by have := B3.size; omega)
                      have u0 := below_cell hb5 t0
                      have u1 := below_cell hb5 t1
                      have u2 := below_cell hb5 t2
                      have u3 := below_cell hb5 t3
                      clear d0 d1 d2 d3 t0 t1 t2 t3
                      go_wp2_with fail
                      go_loopw [8] (fun i wr => ∃ j : Nat, j ≤ 0 ∧ i = .int .i64 j ∧ Hid (∀ (i : Nat) (c : Shift), i < j → plan[i]? = some c → closeT s c = false) ∧ Below w.heap.size w wr ∧ wr.cell? ⟨wo.heap.size, 0, none⟩ = some (.int .i64 s.day) ∧ wr.cell? ⟨wo.heap.size, 1, none⟩ = some (.int .i64 s.part) ∧ wr.cell? ⟨wo.heap.size, 2, none⟩ = some (.int .i64 s.who) ∧ wr.cell? ⟨wo.heap.size, 3, none⟩ = some (.int .i64 s.duty)) (fun i _ => 0 - (intOf i).toNat)
                      case atStart => exact ⟨0, Nat.zero_le _, rfl, hide (fun i c hi => absurd hi (Nat.not_lt_zero i)), B5, u0, u1, u2, u3⟩
                      case round =>
                        clear u0 u1 u2 u3
                        obtain ⟨j, hj, rfl, hq, B6, u0, u1, u2, u3⟩ := hrel
                        by_cases hjk : j < 0
                        · exact absurd hjk (Nat.not_lt_zero _)
                        · have hjn : j = 0 := by omega
                          subst hjn
                          have HY := hide (planTAt_yes HG.out HRISE.out (close_no hq.out))
                          go_wp2_with fail
                          go_roundw
                          case rel => exact ⟨0 + 1, by omega, by go_num, hide (upto_step hp.out HY.out), B6⟩
                          case measure => simp [intOf]; omega
                    · have hgd := List.getElem?_eq_getElem (show k - 1 < plan.length by omega)
                      obtain ⟨p0, p1, p2, p3⟩ := HCC.out (k - 1) _ hgd
                      generalize plan[k - 1] = p at *
                      have HP := hide hgd; clear hgd
                      have HBP := hide (uptoT_bd hp.out (show k - 1 < k by omega) HP.out)
                      have hk1' : (0 : Int) < (k : Int) := by omega
                      cases hA1 : decide (atS s < atS p)
                      · cases hA2 : (atS p == atS s)
                        · skip
                          have HL := hide (show ltT p s = true by simp only [ltT, *]; rfl)
                          have HRISE := hide (rise_next (lt := ltT) HG.out HP.out HO.out HL.out)
                          go_wp2_with (go_at_call 79; refine (l22Find_is HI.out _ _ _ R0.out l0).mono ?_; rintro e w2 ⟨rfl, rfl⟩)
                          refine wp_region_after (by kernel_rfl) (by kernel_rfl) ?_
                          repeat (go_big_quiet_step ((first | (go_at_call 93; exact Calls.after_same (l22Part_is (by assumption) _)) | (go_at_call 94; exact Calls.after_same (l22Duty_is (by assumption) _)) | (go_at_call 80; exact Calls.after_same (l22Worked_any plan _ c1 s.who _ (Rd.later R1.out (Subtype.property _)) l1)))))
                          refine wpQuiet_nil ?_
                          rintro w3 ⟨⟨_, hb4⟩, rfl⟩
                          have B3 : Below w.heap.size w w3 := below_step (below_step hbel hb2 (by have := hbel.size; omega)) hb4 (by have := hbel.size; first | (simp; done) | (simp; omega))
                          have t0 := below_cell hb4 z0
                          have t1 := below_cell hb4 z1
                          have t2 := below_cell hb4 z2
                          have t3 := below_cell hb4 z3
                          clear a0 a1 a2 a3 av2 av3 z0 z1 z2 z3 y0 y1 y2 y3 h0 h1 h2 h3 hpk hgk hkl hkk hk0
                          have d0 := after_cell t0
                          have d1 := after_cell t1
                          have d2 := after_cell t2
                          have d3 := after_cell t3
                          have g0 := after_cell (below_cell B3 p0)
                          have g1 := after_cell (below_cell B3 p1)
                          have g2 := after_cell (below_cell B3 p2)
                          have g3 := after_cell (below_cell B3 p3)
                          go_wp2_with fail
                          refine wp_region_after (by kernel_rfl) (by kernel_rfl) ?_
                          repeat (go_big_quiet_step ((first | (go_at_call 99; exact Calls.after (l22At_bd _ _ (by assumption))))))
                          refine wpQuiet_nil ?_
                          rintro w5 ⟨⟨_, hb5⟩, rfl⟩
                          have B5 : Below w.heap.size w w5 := below_step B3 hb5 (by have := B3.size; omega)
                          have u0 := below_cell hb5 t0
                          have u1 := below_cell hb5 t1
                          have u2 := below_cell hb5 t2
                          have u3 := below_cell hb5 t3
                          clear d0 d1 d2 d3 t0 t1 t2 t3
                          clear g0 g1 g2 g3 p0 p1 p2 p3 HP HBP
                          go_wp2_with fail
                          go_loopw [8] (fun i wr => ∃ j : Nat, j ≤ k ∧ i = .int .i64 j ∧ Hid (∀ (i : Nat) (c : Shift), i < j → plan[i]? = some c → closeT s c = false) ∧ Below w.heap.size w wr ∧ wr.cell? ⟨wo.heap.size, 0, none⟩ = some (.int .i64 s.day) ∧ wr.cell? ⟨wo.heap.size, 1, none⟩ = some (.int .i64 s.part) ∧ wr.cell? ⟨wo.heap.size, 2, none⟩ = some (.int .i64 s.who) ∧ wr.cell? ⟨wo.heap.size, 3, none⟩ = some (.int .i64 s.duty)) (fun i _ => k - (intOf i).toNat)
                          case atStart => exact ⟨0, Nat.zero_le _, rfl, hide (fun i c hi => absurd hi (Nat.not_lt_zero i)), B5, u0, u1, u2, u3⟩
                          case round =>
                            clear u0 u1 u2 u3
                            obtain ⟨j, hj, rfl, hq, B6, u0, u1, u2, u3⟩ := hrel
                            by_cases hjk : j < k
                            · have hgj := List.getElem?_eq_getElem (show j < plan.length by omega)
                              obtain ⟨p0, p1, p2, p3⟩ := HCC.out j _ hgj
                              generalize plan[j] = p at *
                              have HP := hide hgj; clear hgj
                              have HBP := hide (uptoT_bd hp.out hjk HP.out)
                              have hjk' : (j : Int) < (k : Int) := by omega
                              have hjl : (j : Int) < (plan.length : Int) := by omega
                              have e0 := after_cell u0
                              have f0 := after_cell (below_cell B6 p0)
                              have e1 := after_cell u1
                              have f1 := after_cell (below_cell B6 p1)
                              have e2 := after_cell u2
                              have f2 := after_cell (below_cell B6 p2)
                              have e3 := after_cell u3
                              have f3 := after_cell (below_cell B6 p3)
                              cases hw : (p.who == s.who)
                              · have HC := hide (show closeT s p = false by simp [closeT, hw])
                                go_wp2_with fail
                                refine wp_region_after (by kernel_rfl) (by kernel_rfl) ?_
                                repeat (go_big_quiet_step ((first | (go_at_call 99; exact Calls.after (l22At_bd _ _ (by assumption))))))
                                refine wpQuiet_nil ?_
                                rintro w7 ⟨⟨_, hb7⟩, rfl⟩
                                go_wp2_with fail
                                go_roundw
                                case rel => exact ⟨j + 1, by omega, by go_num, hide (no_step hq.out HP.out HC.out), below_step B6 hb7 (by have := B6.size; omega), below_cell hb7 u0, below_cell hb7 u1, below_cell hb7 u2, below_cell hb7 u3⟩
                                case measure => simp [intOf]; omega
                              · have hpb := HBP.out; have hsb := HBS.out
                                have hA : -1 ≤ atS p ∧ atS p ≤ 30 := by obtain ⟨⟨_, _⟩, _, _⟩ := hpb; unfold atS; omega
                                have hS : -1 ≤ atS s ∧ atS s ≤ 30 := by obtain ⟨⟨_, _⟩, _, _⟩ := hsb; unfold atS; omega
                                clear hpb hsb
                                cases hd : decide (atS s - atS p < 2)
                                · have HC := hide (show closeT s p = false by simp only [closeT, hd, Bool.and_false])
                                  go_wp2_with fail
                                  refine wp_region_after (by kernel_rfl) (by kernel_rfl) ?_
                                  repeat (go_big_quiet_step ((first | (go_at_call 99; exact Calls.after (l22At_bd _ _ (by assumption))))))
                                  refine wpQuiet_nil ?_
                                  rintro w7 ⟨⟨_, hb7⟩, rfl⟩
                                  go_wp2_with fail
                                  go_roundw
                                  case rel => exact ⟨j + 1, by omega, by go_num, hide (no_step hq.out HP.out HC.out), below_step B6 hb7 (by have := B6.size; omega), below_cell hb7 u0, below_cell hb7 u1, below_cell hb7 u2, below_cell hb7 u3⟩
                                  case measure => simp [intOf]; omega
                                · have HC := hide (show closeT s p = true by simp only [closeT, hd, hw]; rfl)
                                  go_wp2_with fail
                                  refine wp_region_after (by kernel_rfl) (by kernel_rfl) ?_
                                  repeat (go_big_quiet_step ((first | (go_at_call 99; exact Calls.after (l22At_bd _ _ (by assumption))))))
                                  refine wpQuiet_nil ?_
                                  rintro w7 ⟨⟨_, hb7⟩, rfl⟩
                                  go_wp2_with fail
                                  go_ret
                                  exact ⟨ret_bool (planT_no hlt (planTAt_adj HG.out (close_yes hjk HP.out HC.out))).symm, below_step B6 hb7 (by have := B6.size; omega)⟩
                            · have hjn : j = k := by omega
                              subst hjn
                              have HY := hide (planTAt_yes HG.out HRISE.out (close_no hq.out))
                              go_wp2_with fail
                              go_roundw
                              case rel => exact ⟨j + 1, by omega, by go_num, hide (upto_step hp.out HY.out), B6⟩
                              case measure => simp [intOf]; omega
                        · cases hA3 : decide (s.who ≤ p.who)
                          · skip
                            have HL := hide (show ltT p s = true by simp only [ltT, *]; rfl)
                            have HRISE := hide (rise_next (lt := ltT) HG.out HP.out HO.out HL.out)
                            go_wp2_with (go_at_call 79; refine (l22Find_is HI.out _ _ _ R0.out l0).mono ?_; rintro e w2 ⟨rfl, rfl⟩)
                            refine wp_region_after (by kernel_rfl) (by kernel_rfl) ?_
                            repeat (go_big_quiet_step ((first | (go_at_call 93; exact Calls.after_same (l22Part_is (by assumption) _)) | (go_at_call 94; exact Calls.after_same (l22Duty_is (by assumption) _)) | (go_at_call 80; exact Calls.after_same (l22Worked_any plan _ c1 s.who _ (Rd.later R1.out (Subtype.property _)) l1)))))
                            refine wpQuiet_nil ?_
                            rintro w3 ⟨⟨_, hb4⟩, rfl⟩
                            have B3 : Below w.heap.size w w3 := below_step (below_step hbel hb2 (by have := hbel.size; omega)) hb4 (by have := hbel.size; first | (simp; done) | (simp; omega))
                            have t0 := below_cell hb4 z0
                            have t1 := below_cell hb4 z1
                            have t2 := below_cell hb4 z2
                            have t3 := below_cell hb4 z3
                            clear a0 a1 a2 a3 av2 av3 z0 z1 z2 z3 y0 y1 y2 y3 h0 h1 h2 h3 hpk hgk hkl hkk hk0
                            have d0 := after_cell t0
                            have d1 := after_cell t1
                            have d2 := after_cell t2
                            have d3 := after_cell t3
                            have g0 := after_cell (below_cell B3 p0)
                            have g1 := after_cell (below_cell B3 p1)
                            have g2 := after_cell (below_cell B3 p2)
                            have g3 := after_cell (below_cell B3 p3)
                            go_wp2_with fail
                            refine wp_region_after (by kernel_rfl) (by kernel_rfl) ?_
                            repeat (go_big_quiet_step ((first | (go_at_call 99; exact Calls.after (l22At_bd _ _ (by assumption))))))
                            refine wpQuiet_nil ?_
                            rintro w5 ⟨⟨_, hb5⟩, rfl⟩
                            have B5 : Below w.heap.size w w5 := below_step B3 hb5 (by have := B3.size; omega)
                            have u0 := below_cell hb5 t0
                            have u1 := below_cell hb5 t1
                            have u2 := below_cell hb5 t2
                            have u3 := below_cell hb5 t3
                            clear d0 d1 d2 d3 t0 t1 t2 t3
                            clear g0 g1 g2 g3 p0 p1 p2 p3 HP HBP
                            go_wp2_with fail
                            go_loopw [8] (fun i wr => ∃ j : Nat, j ≤ k ∧ i = .int .i64 j ∧ Hid (∀ (i : Nat) (c : Shift), i < j → plan[i]? = some c → closeT s c = false) ∧ Below w.heap.size w wr ∧ wr.cell? ⟨wo.heap.size, 0, none⟩ = some (.int .i64 s.day) ∧ wr.cell? ⟨wo.heap.size, 1, none⟩ = some (.int .i64 s.part) ∧ wr.cell? ⟨wo.heap.size, 2, none⟩ = some (.int .i64 s.who) ∧ wr.cell? ⟨wo.heap.size, 3, none⟩ = some (.int .i64 s.duty)) (fun i _ => k - (intOf i).toNat)
                            case atStart => exact ⟨0, Nat.zero_le _, rfl, hide (fun i c hi => absurd hi (Nat.not_lt_zero i)), B5, u0, u1, u2, u3⟩
                            case round =>
                              clear u0 u1 u2 u3
                              obtain ⟨j, hj, rfl, hq, B6, u0, u1, u2, u3⟩ := hrel
                              by_cases hjk : j < k
                              · have hgj := List.getElem?_eq_getElem (show j < plan.length by omega)
                                obtain ⟨p0, p1, p2, p3⟩ := HCC.out j _ hgj
                                generalize plan[j] = p at *
                                have HP := hide hgj; clear hgj
                                have HBP := hide (uptoT_bd hp.out hjk HP.out)
                                have hjk' : (j : Int) < (k : Int) := by omega
                                have hjl : (j : Int) < (plan.length : Int) := by omega
                                have e0 := after_cell u0
                                have f0 := after_cell (below_cell B6 p0)
                                have e1 := after_cell u1
                                have f1 := after_cell (below_cell B6 p1)
                                have e2 := after_cell u2
                                have f2 := after_cell (below_cell B6 p2)
                                have e3 := after_cell u3
                                have f3 := after_cell (below_cell B6 p3)
                                cases hw : (p.who == s.who)
                                · have HC := hide (show closeT s p = false by simp [closeT, hw])
                                  go_wp2_with fail
                                  refine wp_region_after (by kernel_rfl) (by kernel_rfl) ?_
                                  repeat (go_big_quiet_step ((first | (go_at_call 99; exact Calls.after (l22At_bd _ _ (by assumption))))))
                                  refine wpQuiet_nil ?_
                                  rintro w7 ⟨⟨_, hb7⟩, rfl⟩
                                  go_wp2_with fail
                                  go_roundw
                                  case rel => exact ⟨j + 1, by omega, by go_num, hide (no_step hq.out HP.out HC.out), below_step B6 hb7 (by have := B6.size; omega), below_cell hb7 u0, below_cell hb7 u1, below_cell hb7 u2, below_cell hb7 u3⟩
                                  case measure => simp [intOf]; omega
                                · have hpb := HBP.out; have hsb := HBS.out
                                  have hA : -1 ≤ atS p ∧ atS p ≤ 30 := by obtain ⟨⟨_, _⟩, _, _⟩ := hpb; unfold atS; omega
                                  have hS : -1 ≤ atS s ∧ atS s ≤ 30 := by obtain ⟨⟨_, _⟩, _, _⟩ := hsb; unfold atS; omega
                                  clear hpb hsb
                                  cases hd : decide (atS s - atS p < 2)
                                  · have HC := hide (show closeT s p = false by simp only [closeT, hd, Bool.and_false])
                                    go_wp2_with fail
                                    refine wp_region_after (by kernel_rfl) (by kernel_rfl) ?_
                                    repeat (go_big_quiet_step ((first | (go_at_call 99; exact Calls.after (l22At_bd _ _ (by assumption))))))
                                    refine wpQuiet_nil ?_
                                    rintro w7 ⟨⟨_, hb7⟩, rfl⟩
                                    go_wp2_with fail
                                    go_roundw
                                    case rel => exact ⟨j + 1, by omega, by go_num, hide (no_step hq.out HP.out HC.out), below_step B6 hb7 (by have := B6.size; omega), below_cell hb7 u0, below_cell hb7 u1, below_cell hb7 u2, below_cell hb7 u3⟩
                                    case measure => simp [intOf]; omega
                                  · have HC := hide (show closeT s p = true by simp only [closeT, hd, hw]; rfl)
                                    go_wp2_with fail
                                    refine wp_region_after (by kernel_rfl) (by kernel_rfl) ?_
                                    repeat (go_big_quiet_step ((first | (go_at_call 99; exact Calls.after (l22At_bd _ _ (by assumption))))))
                                    refine wpQuiet_nil ?_
                                    rintro w7 ⟨⟨_, hb7⟩, rfl⟩
                                    go_wp2_with fail
                                    go_ret
                                    exact ⟨ret_bool (planT_no hlt (planTAt_adj HG.out (close_yes hjk HP.out HC.out))).symm, below_step B6 hb7 (by have := B6.size; omega)⟩
                              · have hjn : j = k := by omega
                                subst hjn
                                have HY := hide (planTAt_yes HG.out HRISE.out (close_no hq.out))
                                go_wp2_with fail
                                go_roundw
                                case rel => exact ⟨j + 1, by omega, by go_num, hide (upto_step hp.out HY.out), B6⟩
                                case measure => simp [intOf]; omega
                          · skip
                            have HL := hide (show ltT p s = false by simp only [ltT, *]; rfl)
                            go_wp2_with (go_at_call 79; refine (l22Find_is HI.out _ _ _ R0.out l0).mono ?_; rintro e w2 ⟨rfl, rfl⟩)
                            refine wp_region_after (by kernel_rfl) (by kernel_rfl) ?_
                            repeat (go_big_quiet_step ((first | (go_at_call 93; exact Calls.after_same (l22Part_is (by assumption) _)) | (go_at_call 94; exact Calls.after_same (l22Duty_is (by assumption) _)) | (go_at_call 80; exact Calls.after_same (l22Worked_any plan _ c1 s.who _ (Rd.later R1.out (Subtype.property _)) l1)))))
                            refine wpQuiet_nil ?_
                            rintro w3 ⟨⟨_, hb4⟩, rfl⟩
                            have B3 : Below w.heap.size w w3 := below_step (below_step hbel hb2 (by have := hbel.size; omega)) hb4 (by have := hbel.size; first | (simp; done) | (simp; omega))
                            have t0 := below_cell hb4 z0
                            have t1 := below_cell hb4 z1
                            have t2 := below_cell hb4 z2
                            have t3 := below_cell hb4 z3
                            clear a0 a1 a2 a3 av2 av3 z0 z1 z2 z3 y0 y1 y2 y3 h0 h1 h2 h3 hpk hgk hkl hkk hk0
                            have d0 := after_cell t0
                            have d1 := after_cell t1
                            have d2 := after_cell t2
                            have d3 := after_cell t3
                            have g0 := after_cell (below_cell B3 p0)
                            have g1 := after_cell (below_cell B3 p1)
                            have g2 := after_cell (below_cell B3 p2)
                            have g3 := after_cell (below_cell B3 p3)
                            go_wp2_with fail
                            refine wp_region_after (by kernel_rfl) (by kernel_rfl) ?_
                            repeat (go_big_quiet_step ((first | (go_at_call 99; exact Calls.after (l22At_bd _ _ (by assumption))))))
                            refine wpQuiet_nil ?_
                            rintro w5 ⟨⟨_, hb5⟩, rfl⟩
                            have B5 : Below w.heap.size w w5 := below_step B3 hb5 (by have := B3.size; omega)
                            have u0 := below_cell hb5 t0
                            have u1 := below_cell hb5 t1
                            have u2 := below_cell hb5 t2
                            have u3 := below_cell hb5 t3
                            clear d0 d1 d2 d3 t0 t1 t2 t3
                            go_wp2_with fail
                            go_ret
                            exact ⟨ret_bool (planT_no hlt (planTAt_rise (rise_low HG.out HP.out hk1 HL.out))).symm, B5⟩
                      · skip
                        have HL := hide (show ltT p s = false by simp only [ltT, *]; rfl)
                        go_wp2_with (go_at_call 79; refine (l22Find_is HI.out _ _ _ R0.out l0).mono ?_; rintro e w2 ⟨rfl, rfl⟩)
                        refine wp_region_after (by kernel_rfl) (by kernel_rfl) ?_
                        repeat (go_big_quiet_step ((first | (go_at_call 93; exact Calls.after_same (l22Part_is (by assumption) _)) | (go_at_call 94; exact Calls.after_same (l22Duty_is (by assumption) _)) | (go_at_call 80; exact Calls.after_same (l22Worked_any plan _ c1 s.who _ (Rd.later R1.out (Subtype.property _)) l1)))))
                        refine wpQuiet_nil ?_
                        rintro w3 ⟨⟨_, hb4⟩, rfl⟩
                        have B3 : Below w.heap.size w w3 := below_step (below_step hbel hb2 (by have := hbel.size; omega)) hb4 (by have := hbel.size; first | (simp; done) | (simp; omega))
                        have t0 := below_cell hb4 z0
                        have t1 := below_cell hb4 z1
                        have t2 := below_cell hb4 z2
                        have t3 := below_cell hb4 z3
                        clear a0 a1 a2 a3 av2 av3 z0 z1 z2 z3 y0 y1 y2 y3 h0 h1 h2 h3 hpk hgk hkl hkk hk0
                        have d0 := after_cell t0
                        have d1 := after_cell t1
                        have d2 := after_cell t2
                        have d3 := after_cell t3
                        have g0 := after_cell (below_cell B3 p0)
                        have g1 := after_cell (below_cell B3 p1)
                        have g2 := after_cell (below_cell B3 p2)
                        have g3 := after_cell (below_cell B3 p3)
                        go_wp2_with fail
                        refine wp_region_after (by kernel_rfl) (by kernel_rfl) ?_
                        repeat (go_big_quiet_step ((first | (go_at_call 99; exact Calls.after (l22At_bd _ _ (by assumption))))))
                        refine wpQuiet_nil ?_
                        rintro w5 ⟨⟨_, hb5⟩, rfl⟩
                        have B5 : Below w.heap.size w w5 := below_step B3 hb5 (by have := B3.size; omega)
                        have u0 := below_cell hb5 t0
                        have u1 := below_cell hb5 t1
                        have u2 := below_cell hb5 t2
                        have u3 := below_cell hb5 t3
                        clear d0 d1 d2 d3 t0 t1 t2 t3
                        go_wp2_with fail
                        go_ret
                        exact ⟨ret_bool (planT_no hlt (planTAt_rise (rise_low HG.out HP.out hk1 HL.out))).symm, B5⟩
                  · skip
                    have HB := hide (show oneT staff plan s = false by simp only [oneT, HD.out, h2, h3]; simp)
                    go_wp2_with (go_at_call 79; refine (l22Find_is HI.out _ _ _ R0.out l0).mono ?_; rintro e w2 ⟨rfl, rfl⟩)
                    refine wp_region_after (by kernel_rfl) (by kernel_rfl) ?_
                    repeat (go_big_quiet_step ((first | (go_at_call 93; exact Calls.after_same (l22Part_is (by assumption) _)) | (go_at_call 94; exact Calls.after_same (l22Duty_is (by assumption) _)) | (go_at_call 80; exact Calls.after_same (l22Worked_any plan _ c1 s.who _ (Rd.later R1.out (Subtype.property _)) l1)))))
                    refine wpQuiet_nil ?_
                    rintro w3 ⟨⟨_, hb4⟩, rfl⟩
                    have B3 : Below w.heap.size w w3 := below_step (below_step hbel hb2 (by have := hbel.size; omega)) hb4 (by have := hbel.size; first | (simp; done) | (simp; omega))
                    go_wp2_with fail
                    go_ret
                    exact ⟨ret_bool (planT_no hlt (planTAt_rise (rise_bad HG.out HB.out))).symm, B3⟩
                · skip
                  have HB := hide (show oneT staff plan s = false by simp [oneT, HD.out, h2])
                  go_wp2_with (go_at_call 79; refine (l22Find_is HI.out _ _ _ R0.out l0).mono ?_; rintro e w2 ⟨rfl, rfl⟩)
                  refine wp_region_after (by kernel_rfl) (by kernel_rfl) ?_
                  repeat (go_big_quiet_step ((first | (go_at_call 93; exact Calls.after_same (l22Part_is (by assumption) _)) | (go_at_call 94; exact Calls.after_same (l22Duty_is (by assumption) _)) | (go_at_call 80; exact Calls.after_same (l22Worked_any plan _ c1 s.who _ (Rd.later R1.out (Subtype.property _)) l1)))))
                  refine wpQuiet_nil ?_
                  rintro w3 ⟨⟨_, hb4⟩, rfl⟩
                  have B3 : Below w.heap.size w w3 := below_step (below_step hbel hb2 (by have := hbel.size; omega)) hb4 (by have := hbel.size; first | (simp; done) | (simp; omega))
                  go_wp2_with fail
                  go_ret
                  exact ⟨ret_bool (planT_no hlt (planTAt_rise (rise_bad HG.out HB.out))).symm, B3⟩
        · have hkn : k = plan.length := by omega
          subst hkn
          have HA := hide (allAt_yes (Nat.le_refl _) hp.out)
          go_wp2_with fail
          go_ret
          exact ⟨ret_bool (by simp [planT, hst'.out, HA.out]; omega), hbel⟩
end Go.Proofs.Ytfaicjlpncidgaa
