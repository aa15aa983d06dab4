/- Plans: whether staff and a plan are valid, the program's function. -/
import Derived.Test.YtfaicjlpncidgaaStaff2
namespace Go.Proofs.Ytfaicjlpncidgaa
open Go Go.RowKit
theorem Rd.take {α : Type} {enc : α → List Value} {sz B : Nat} {w : World} {A : Option Addr} {L : List α} (h : Rd enc sz B w A L) (k : Nat) : Rd enc sz B w A (L.take k) := by
  rcases h with h | ⟨b, o, hA, hb, hc⟩
  · exact .inl (by rw [h, List.take_nil])
  · exact .inr ⟨b, o, hA, hb, fun j c hj => hc j c (by rw [List.getElem?_take] at hj; split at hj <;> simp_all)⟩
def Bd (c : Shift) : Prop := (0 ≤ c.day ∧ c.day ≤ 6) ∧ (0 ≤ c.part ∧ c.part ≤ 2)
theorem partB_bd {c : Shift} (h : partB c.day c.part = true) : Bd c := by
  simp only [partB, Bool.and_eq_true, inB_iff] at h; exact h
def adjP (who at_ : Int) (o : Shift) : Bool := o.who == who && (3 * o.day + o.part == at_ - 1)
theorem adj_pred (s : Shift) (at_ : Int) (L : List Shift) (w : World) (B1 B2 : Nat) (h0 : 0 ≤ at_) (h20 : at_ ≤ 20) (hbd : ∀ c ∈ L, Bd c)
    (hc : w.cell? ⟨B1, 2, none⟩ = some (.int .i64 s.who)) (ha : w.cell? ⟨B2, 0, none⟩ = some (.int .i64 at_)) :
    Shift.Pred 74 #[.pointer (some ⟨B1, 0, none⟩), .pointer (some ⟨B2, 0, none⟩)] (adjP s.who at_) L w := by
  refine ⟨entersF Try.func74 (by kernel_rfl) rfl, fun W c hm hb => ?_⟩
  obtain ⟨⟨g1, g2⟩, g3, g4⟩ := hbd c hm
  have q1 := below_cell ((Below.refl W.heap.size W).alloc (Nat.le_refl _) (.cells #[.int .i64 c.day, .int .i64 c.part, .int .i64 c.who, .int .i64 c.duty] 66)) (below_cell hb hc)
  have q2 := below_cell ((Below.refl W.heap.size W).alloc (Nat.le_refl _) (.cells #[.int .i64 c.day, .int .i64 c.part, .int .i64 c.who, .int .i64 c.duty] 66)) (below_cell hb ha)
  clear hbd
  show Calls Try.prog 74 #[.agg #[.int .i64 c.day, .int .i64 c.part, .int .i64 c.who, .int .i64 c.duty], .pointer (some ⟨B1, 0, none⟩), .pointer (some ⟨B2, 0, none⟩)] W _
  cases hw : (c.who == s.who)
  · go_enter Try.func74, Try.ntmps74
    go_wp2_with fail
    go_ret
    exact ⟨ret_bool (by simp [adjP, hw]), (Below.refl _ _).alloc (Nat.le_refl _) _⟩
  · go_enter Try.func74, Try.ntmps74
    go_wp2_with fail
    go_ret
    exact ⟨ret_bool (by simp [adjP, hw]), (Below.refl _ _).alloc (Nat.le_refl _) _⟩
def overP (plan : List Shift) (c : Worker) : Bool := decide (c.hours < hoursL plan c.id)
set_option maxHeartbeats 400000 in
theorem over_pred (plan : List Shift) (A : Option Addr) (cap : Nat) (L : List Worker) (w : World) (B : Nat) (hr : Rd Shift.enc 4 w.heap.size w A plan) (hl : plan.length ≤ 1000000) (hc : w.cell? ⟨B, 0, none⟩ = some (.slice A plan.length cap)) :
    Worker.Pred 76 #[.pointer (some ⟨B, 0, none⟩)] (overP plan) L w := by
  refine ⟨entersF Try.func76 (by kernel_rfl) rfl, fun W c _ hb => ?_⟩
  have E := Worker.box_after W c 75
  have q1 := after_alloc (.cells #[.int .i64 c.id, .string c.name, .int .i64 c.duties, .int .i64 c.hours] 75) (below_cell hb hc)
  have hr1 := hide (hr.later hb)
  show Calls Try.prog 76 #[.agg #[.int .i64 c.id, .string c.name, .int .i64 c.duties, .int .i64 c.hours], .pointer (some ⟨B, 0, none⟩)] W _
  go_enter Try.func76, Try.ntmps76
  go_wp2_with fail
  refine wp_region_after (by kernel_rfl) (by kernel_rfl) ?_
  repeat (go_big_quiet_step ((go_at_call 77; exact Calls.after (hoursOf_any plan A cap c.id _ (Rd.later (Rd.later hr1.out ((Below.refl _ _).alloc (Nat.le_refl _) _)) (Subtype.property _)) hl))))
  refine wpQuiet_nil ?_
  rintro w1 ⟨⟨_, hb1⟩, rfl⟩
  go_wp2_with fail
  go_ret
  exact ⟨rfl, below_new' hb1⟩

/- a plan as the program sees it -/
def hasDutyW (staff : List Worker) (s : Shift) : Bool := match staff.find? (isId s.who) with
  | none => false
  | some k => !(bits .and .i64 k.duties s.duty == 0)
def oneS (staff : List Worker) (s : Shift) : Bool := partB s.day s.part && (dutyB s.duty && hasDutyW staff s)
def ltS (d c : Shift) : Bool := decide (cmpS d c < 0)
def planAt (staff : List Worker) (plan : List Shift) (i : Nat) : Bool := riseAt (oneS staff) ltS plan i && (match plan[i]? with
  | none => true
  | some s => !((plan.take i).any (adjP s.who (3 * s.day + s.part))))
def planB (staff : List Worker) (plan : List Shift) : Bool := staffB staff && (decide (plan.length ≤ 40) && (allAt (planAt staff plan) plan.length && !(staff.any (overP plan))))
theorem workerOf_is {L : List Worker} {id z : Int} (h : idxF (isId id) L = z) (A : Option Addr) (cap : Nat) (w : World) (hr : Rd Worker.enc 4 w.heap.size w A L) (hl : L.length ≤ maxLen) :
    Calls Try.prog 69 #[.slice A L.length cap, .int .i64 id] w fun e w' => e = .returned (.int .i64 z) ∧ Below w.heap.size w w' := h ▸ workerOf_any L A cap id w hr hl
theorem AreStaff_is {L : List Worker} {b : Bool} (h : staffB L = b) (A : Option Addr) (cap : Nat) (w : World) (hr : Rd Worker.enc 4 w.heap.size w A L) (hok : ∀ c ∈ L, c.Ok) (hl : L.length ≤ maxLen) :
    Calls Try.prog 17 #[.slice A L.length cap] w fun e w' => e = .returned (.bool b) ∧ Below w.heap.size w w' := h ▸ AreStaff_any L A cap w hr hok hl
theorem isPart_is {d p : Int} {b : Bool} (h : partB d p = b) (w : World) : Calls Try.prog 70 #[.int .i64 d, .int .i64 p] w fun e w' => e = .returned (.bool b) ∧ w = w' := h ▸ isPart_any d p w
theorem isDuty_is {d : Int} {b : Bool} (h : dutyB d = b) (w : World) : Calls Try.prog 71 #[.int .i64 d] w fun e w' => e = .returned (.bool b) ∧ w = w' := h ▸ isDuty_any d w
theorem Shift.ContainsFunc_n {n : Nat} {b : Bool} (g : Nat) (caps : Array Value) (p : Shift → Bool) (L : List Shift) (hn : L.length = n) (hb : L.any p = b) (A : Option Addr) (cap : Nat) (w : World) (hr : Rd Shift.enc 4 w.heap.size w A L) (hl : L.length ≤ maxLen) (hp : Shift.Pred g caps p L w) :
    Calls Try.prog 73 #[.slice A n cap, .func (.func g) #[] caps] w fun e w' => e = .returned (.bool b) ∧ Below w.heap.size w w' := by
  subst hn; subst hb; exact Shift.ContainsFunc_any g caps p L A cap w hr hl hp
theorem Worker.ContainsFunc_n {n : Nat} {b : Bool} (g : Nat) (caps : Array Value) (p : Worker → Bool) (L : List Worker) (hn : L.length = n) (hb : L.any p = b) (A : Option Addr) (cap : Nat) (w : World) (hr : Rd Worker.enc 4 w.heap.size w A L) (hl : L.length ≤ maxLen) (hp : Worker.Pred g caps p L w) :
    Calls Try.prog 75 #[.slice A n cap, .func (.func g) #[] caps] w fun e w' => e = .returned (.bool b) ∧ Below w.heap.size w w' := by
  subst hn; subst hb; exact Worker.ContainsFunc_any g caps p L A cap w hr hl hp
theorem plan_no {staff : List Worker} {plan : List Shift} {k : Nat} (h : k < plan.length) (hp : planAt staff plan k = false) : planB staff plan = false := by
  simp [planB, allAt_no h hp]
theorem planAt_rise {staff : List Worker} {plan : List Shift} {k : Nat} (h : riseAt (oneS staff) ltS plan k = false) : planAt staff plan k = false := by simp [planAt, h]
theorem planAt_adj {staff : List Worker} {plan : List Shift} {k : Nat} {s : Shift} (hs : plan[k]? = some s) (h : (plan.take k).any (adjP s.who (3 * s.day + s.part)) = true) : planAt staff plan k = false := by simp [planAt, hs, h]
theorem planAt_yes {staff : List Worker} {plan : List Shift} {k : Nat} {s : Shift} (hs : plan[k]? = some s) (h1 : riseAt (oneS staff) ltS plan k = true) (h : (plan.take k).any (adjP s.who (3 * s.day + s.part)) = false) : planAt staff plan k = true := by simp [planAt, hs, h, h1]
theorem upto_bd {staff : List Worker} {plan : List Shift} {k : Nat} (h : ∀ j, j < k → planAt staff plan j = true) : ∀ c ∈ plan.take k, Bd c := by
  intro c hc
  obtain ⟨j, hj, rfl⟩ := List.mem_iff_getElem.1 hc
  have hj2 : j < k ∧ j < plan.length := by rw [List.length_take] at hj; omega
  have := h j hj2.1
  simp only [planAt, Bool.and_eq_true, riseAt, List.getElem?_eq_getElem hj2.2, oneS] at this
  rw [List.getElem_take]
  exact partB_bd this.1.1.1

set_option maxHeartbeats 4000000 in
theorem IsPlan_any (staff : List Worker) (plan : List Shift) (A0 A1 : Option Addr) (c0 c1 : Nat) (w : World) (r0 : Rd Worker.enc 4 w.heap.size w A0 staff) (r1 : Rd Shift.enc 4 w.heap.size w A1 plan) (ok0 : ∀ c ∈ staff, c.Ok) (l0 : staff.length ≤ maxLen) (l1 : plan.length ≤ maxLen) (hcap : plan.length ≤ c1) :
    Calls Try.prog 28 #[.slice A0 staff.length c0, .slice A1 plan.length c1] w fun e w' => e = .returned (.bool (planB staff plan)) ∧ Below w.heap.size w w' := by
  have l1' := hide l1
  unfold maxLen at l1
  have hba : Below w.heap.size w (w.alloc (.cells #[.slice A1 plan.length c1] 38)) := (Below.refl _ _).alloc (Nat.le_refl _) _
  have x0 : (w.alloc (.cells #[.slice A1 plan.length c1] 38)).cell? ⟨w.heap.size, 0, none⟩ = some (.slice A1 plan.length c1) := by simp
  cases hst : staffB staff
  · go_enter Try.func28, Try.ntmps28
    go_wp2_with (go_at_call 17; refine (AreStaff_is hst _ _ _ (r0.later hba) ok0 l0).mono ?_; rintro e w1 ⟨rfl, hb1⟩; have x1 := below_cell hb1 x0)
    go_ret
    exact ⟨ret_bool (by simp [planB, hst]), below_new' hb1⟩
  · by_cases h40 : (40 : Int) < (plan.length : Int)
    · go_enter Try.func28, Try.ntmps28
      go_wp2_with (go_at_call 17; refine (AreStaff_is hst _ _ _ (r0.later hba) ok0 l0).mono ?_; rintro e w1 ⟨rfl, hb1⟩; have x1 := below_cell hb1 x0)
      go_ret
      exact ⟨ret_bool (by simp [planB]; omega), below_new' hb1⟩
    · have hst' := hide hst; clear hst
      go_enter Try.func28, Try.ntmps28
      go_wp2_with (go_at_call 17; refine (AreStaff_is hst'.out _ _ _ (r0.later hba) ok0 l0).mono ?_; rintro e w1 ⟨rfl, hb1⟩; have x1 := below_cell hb1 x0)
      have B1 : Below w.heap.size w w1 := below_new' hb1
      have x1 := below_cell hb1 x0
      clear x0 hba
      go_loopw [19] (fun i wr => ∃ k : Nat, k ≤ plan.length ∧ i = .int .i64 k ∧ Hid (∀ j, j < k → planAt staff plan j = true) ∧ Below w.heap.size w wr ∧ wr.cell? ⟨w.heap.size, 0, none⟩ = some (.slice A1 plan.length c1)) (fun i _ => plan.length - (intOf i).toNat)
      case atStart => exact ⟨0, Nat.zero_le _, rfl, hide (fun j hj => absurd hj (Nat.not_lt_zero j)), B1, x1⟩
      case round =>
        clear x1
        obtain ⟨k, hk, rfl, hp, hbel, x1⟩ := hrel
        by_cases hlt : k < plan.length
        · obtain ⟨b, o, rfl, hb, hc⟩ := Shift.rd_at r1 (by intro h; subst h; simp at hlt)
          have hget := List.getElem?_eq_getElem hlt
          obtain ⟨y0, y1, y2, y3⟩ := hc k _ hget
          generalize plan[k] = s at *
          have HG := hide hget; clear hget
          replace y0 := below_cell hbel y0
          replace y1 := below_cell hbel y1
          replace y2 := below_cell hbel y2
          replace y3 := below_cell hbel y3
          have hki : (k : Int) < (plan.length : Int) := by omega
          have hkc : k ≤ c1 := by omega
          have hb2 : Below wr.heap.size wr (wr.alloc (.cells #[.int .i64 s.day, .int .i64 s.part, .int .i64 s.who, .int .i64 s.duty] 66)) := (Below.refl _ _).alloc (Nat.le_refl _) _
          have R0 := hide ((r0.later hbel).later hb2)
          have z0 : (wr.alloc (.cells #[.int .i64 s.day, .int .i64 s.part, .int .i64 s.who, .int .i64 s.duty] 66)).cell? ⟨wr.heap.size, 0, none⟩ = some (.int .i64 s.day) := by simp
          have z1 : (wr.alloc (.cells #[.int .i64 s.day, .int .i64 s.part, .int .i64 s.who, .int .i64 s.duty] 66)).cell? ⟨wr.heap.size, 1, none⟩ = some (.int .i64 s.part) := by simp
          have z2 : (wr.alloc (.cells #[.int .i64 s.day, .int .i64 s.part, .int .i64 s.who, .int .i64 s.duty] 66)).cell? ⟨wr.heap.size, 2, none⟩ = some (.int .i64 s.who) := by simp
          have z3 : (wr.alloc (.cells #[.int .i64 s.day, .int .i64 s.part, .int .i64 s.who, .int .i64 s.duty] 66)).cell? ⟨wr.heap.size, 3, none⟩ = some (.int .i64 s.duty) := by simp
          rcases idxF_cases (isId s.who) staff with ⟨hi, hany⟩ | ⟨kk, wk, hi, hkl, hgk, hpk, _, hno⟩
          · have HI := hide hi; clear hi
            have hfi : staff.find? (isId s.who) = none := by rw [List.find?_eq_none]; intro x hx; have := (List.any_eq_false.1 hany) x hx; simpa using this
            have HB := hide (show oneS staff s = false by simp [oneS, hasDutyW, hfi])
            clear hany hfi
            cases h0 : partB s.day s.part
            · have HZ := True.intro
              go_wp2_with (go_at_call 69; refine (workerOf_is HI.out _ _ _ R0.out l0).mono ?_; rintro e w2 ⟨rfl, hb3⟩; have u0 := below_cell hb3 z0; have u1 := below_cell hb3 z1; have u2 := below_cell hb3 z2; have u3 := below_cell hb3 z3)
              have q0 := after_cell (below_cell hb3 z0)
              have q1 := after_cell (below_cell hb3 z1)
              have q2 := after_cell (below_cell hb3 z2)
              have q3 := after_cell (below_cell hb3 z3)
              have qx := after_cell (below_cell hb3 (below_cell hb2 x1))
              refine wp_region_after (by kernel_rfl) (by kernel_rfl) ?_
              repeat (go_big_quiet_step ((first | (go_at_call 70; exact Calls.after_same (isPart_is (by assumption) _)) | (go_at_call 71; exact Calls.after_same (isDuty_is (by assumption) _)) | (go_at_call 72; exact Calls.after (compareShifts_any p s _)))))
              refine wpQuiet_nil ?_
              rintro w3 ⟨⟨_, hb4⟩, rfl⟩
              have B3 : Below w.heap.size w w3 := below_step (below_next hbel hb3 (Nat.le_refl _)) hb4 (Nat.le_refl _)
              go_wp2_with fail
              go_ret
              exact ⟨ret_bool (plan_no hlt (planAt_rise (rise_bad HG.out HB.out))).symm, B3⟩
            · cases h1 : dutyB s.duty
              · have HZ := True.intro
                go_wp2_with (go_at_call 69; refine (workerOf_is HI.out _ _ _ R0.out l0).mono ?_; rintro e w2 ⟨rfl, hb3⟩; have u0 := below_cell hb3 z0; have u1 := below_cell hb3 z1; have u2 := below_cell hb3 z2; have u3 := below_cell hb3 z3)
                have q0 := after_cell (below_cell hb3 z0)
                have q1 := after_cell (below_cell hb3 z1)
                have q2 := after_cell (below_cell hb3 z2)
                have q3 := after_cell (below_cell hb3 z3)
                have qx := after_cell (below_cell hb3 (below_cell hb2 x1))
                refine wp_region_after (by kernel_rfl) (by kernel_rfl) ?_
                repeat (go_big_quiet_step ((first | (go_at_call 70; exact Calls.after_same (isPart_is (by assumption) _)) | (go_at_call 71; exact Calls.after_same (isDuty_is (by assumption) _)) | (go_at_call 72; exact Calls.after (compareShifts_any p s _)))))
                refine wpQuiet_nil ?_
                rintro w3 ⟨⟨_, hb4⟩, rfl⟩
                have B3 : Below w.heap.size w w3 := below_step (below_next hbel hb3 (Nat.le_refl _)) hb4 (Nat.le_refl _)
                go_wp2_with fail
                go_ret
                exact ⟨ret_bool (plan_no hlt (planAt_rise (rise_bad HG.out HB.out))).symm, B3⟩
              · have HZ := True.intro
                go_wp2_with (go_at_call 69; refine (workerOf_is HI.out _ _ _ R0.out l0).mono ?_; rintro e w2 ⟨rfl, hb3⟩; have u0 := below_cell hb3 z0; have u1 := below_cell hb3 z1; have u2 := below_cell hb3 z2; have u3 := below_cell hb3 z3)
                have q0 := after_cell (below_cell hb3 z0)
                have q1 := after_cell (below_cell hb3 z1)
                have q2 := after_cell (below_cell hb3 z2)
                have q3 := after_cell (below_cell hb3 z3)
                have qx := after_cell (below_cell hb3 (below_cell hb2 x1))
                refine wp_region_after (by kernel_rfl) (by kernel_rfl) ?_
                repeat (go_big_quiet_step ((first | (go_at_call 70; exact Calls.after_same (isPart_is (by assumption) _)) | (go_at_call 71; exact Calls.after_same (isDuty_is (by assumption) _)) | (go_at_call 72; exact Calls.after (compareShifts_any p s _)))))
                refine wpQuiet_nil ?_
                rintro w3 ⟨⟨_, hb4⟩, rfl⟩
                have B3 : Below w.heap.size w w3 := below_step (below_next hbel hb3 (Nat.le_refl _)) hb4 (Nat.le_refl _)
                go_wp2_with fail
                go_ret
                exact ⟨ret_bool (plan_no hlt (planAt_rise (rise_bad HG.out HB.out))).symm, B3⟩
          · have HI := hide hi; clear hi
            have hfi : staff.find? (isId s.who) = some wk := by rw [List.find?_eq_some_iff_getElem]; obtain ⟨hkl', rfl⟩ := List.getElem?_eq_some_iff.1 hgk; exact ⟨hpk, kk, hkl', rfl, fun j hj => by simpa using hno j _ hj (List.getElem?_eq_getElem (by omega))⟩
            have HD := hide (show hasDutyW staff s = !(bits .and .i64 wk.duties s.duty == 0) by simp [hasDutyW, hfi])
            have hk0 : decide ((kk : Int) < 0) = false := by simp
            have hkk : (kk : Int) < (staff.length : Int) := by omega
            obtain ⟨b', o', rfl, _, hc'⟩ := Worker.rd_at r0 (by intro h; subst h; simp at hkl)
            obtain ⟨v0, v1, v2, v3⟩ := hc' kk _ hgk
            clear hfi hno hc'
            cases h0 : partB s.day s.part
            · have HB := hide (show oneS staff s = false by simp [oneS, h0])
              go_wp2_with (go_at_call 69; refine (workerOf_is HI.out _ _ _ R0.out l0).mono ?_; rintro e w2 ⟨rfl, hb3⟩; have u0 := below_cell hb3 z0; have u1 := below_cell hb3 z1; have u2 := below_cell hb3 z2; have u3 := below_cell hb3 z3)
              have q0 := after_cell (below_cell hb3 z0)
              have q1 := after_cell (below_cell hb3 z1)
              have q2 := after_cell (below_cell hb3 z2)
              have q3 := after_cell (below_cell hb3 z3)
              have qx := after_cell (below_cell hb3 (below_cell hb2 x1))
              have qv := after_cell (below_cell hb3 (below_cell hb2 (below_cell hbel v2)))
              refine wp_region_after (by kernel_rfl) (by kernel_rfl) ?_
              repeat (go_big_quiet_step ((first | (go_at_call 70; exact Calls.after_same (isPart_is (by assumption) _)) | (go_at_call 71; exact Calls.after_same (isDuty_is (by assumption) _)) | (go_at_call 72; exact Calls.after (compareShifts_any p s _)))))
              refine wpQuiet_nil ?_
              rintro w3 ⟨⟨_, hb4⟩, rfl⟩
              have B3 : Below w.heap.size w w3 := below_step (below_next hbel hb3 (Nat.le_refl _)) hb4 (Nat.le_refl _)
              go_wp2_with fail
              go_ret
              exact ⟨ret_bool (plan_no hlt (planAt_rise (rise_bad HG.out HB.out))).symm, B3⟩
            · cases h1 : dutyB s.duty
              · have HB := hide (show oneS staff s = false by simp [oneS, h1])
                go_wp2_with (go_at_call 69; refine (workerOf_is HI.out _ _ _ R0.out l0).mono ?_; rintro e w2 ⟨rfl, hb3⟩; have u0 := below_cell hb3 z0; have u1 := below_cell hb3 z1; have u2 := below_cell hb3 z2; have u3 := below_cell hb3 z3)
                have q0 := after_cell (below_cell hb3 z0)
                have q1 := after_cell (below_cell hb3 z1)
                have q2 := after_cell (below_cell hb3 z2)
                have q3 := after_cell (below_cell hb3 z3)
                have qx := after_cell (below_cell hb3 (below_cell hb2 x1))
                have qv := after_cell (below_cell hb3 (below_cell hb2 (below_cell hbel v2)))
                refine wp_region_after (by kernel_rfl) (by kernel_rfl) ?_
                repeat (go_big_quiet_step ((first | (go_at_call 70; exact Calls.after_same (isPart_is (by assumption) _)) | (go_at_call 71; exact Calls.after_same (isDuty_is (by assumption) _)) | (go_at_call 72; exact Calls.after (compareShifts_any p s _)))))
                refine wpQuiet_nil ?_
                rintro w3 ⟨⟨_, hb4⟩, rfl⟩
                have B3 : Below w.heap.size w w3 := below_step (below_next hbel hb3 (Nat.le_refl _)) hb4 (Nat.le_refl _)
                go_wp2_with fail
                go_ret
                exact ⟨ret_bool (plan_no hlt (planAt_rise (rise_bad HG.out HB.out))).symm, B3⟩
              · cases h2 : (bits .and .i64 wk.duties s.duty == 0)
                · have HO := hide (show oneS staff s = true by simp [oneS, h0, h1, HD.out, h2])
                  obtain ⟨⟨g1, g2⟩, g3, g4⟩ := partB_bd h0
                  rcases Nat.eq_zero_or_pos k with rfl | hk1
                  · have HRISE := hide (rise_first (lt := ltS) HG.out HO.out)
                    simp only [Nat.zero_mul, Nat.add_zero] at y0 y1 y2 y3
                    go_wp2_with (go_at_call 69; refine (workerOf_is HI.out _ _ _ R0.out l0).mono ?_; rintro e w2 ⟨rfl, hb3⟩; have u0 := below_cell hb3 z0; have u1 := below_cell hb3 z1; have u2 := below_cell hb3 z2; have u3 := below_cell hb3 z3)
                    have q0 := after_cell (below_cell hb3 z0)
                    have q1 := after_cell (below_cell hb3 z1)
                    have q2 := after_cell (below_cell hb3 z2)
                    have q3 := after_cell (below_cell hb3 z3)
                    have qx := after_cell (below_cell hb3 (below_cell hb2 x1))
                    have qv := after_cell (below_cell hb3 (below_cell hb2 (below_cell hbel v2)))
                    refine wp_region_after (by kernel_rfl) (by kernel_rfl) ?_
                    repeat (go_big_quiet_step ((first | (go_at_call 70; exact Calls.after_same (isPart_is (by assumption) _)) | (go_at_call 71; exact Calls.after_same (isDuty_is (by assumption) _)))))
                    refine wpQuiet_nil ?_
                    rintro w3 ⟨⟨_, hb4⟩, rfl⟩
                    have B3 : Below w.heap.size w w3 := below_step (below_next hbel hb3 (Nat.le_refl _)) hb4 (Nat.le_refl _)
                    have t0 := below_cell hb4 u0; have t1 := below_cell hb4 u1; have t2 := below_cell hb4 u2; have t3 := below_cell hb4 u3
                    have tx : w3.cell? ⟨w.heap.size, 0, none⟩ = some (.slice (some ⟨b, o, none⟩) plan.length c1) := below_cell hb4 (below_cell hb3 (below_cell hb2 x1))
                    have hb5 : Below w3.heap.size w3 (w3.alloc (.cells #[.int .i64 (3 * s.day + s.part)] 3)) := (Below.refl _ _).alloc (Nat.le_refl _) _
                    have tx' := below_cell hb5 tx
                    have RT := hide (((r1.take 0).later B3).later hb5)
                    have PR := hide (adj_pred s (3 * s.day + s.part) (plan.take 0) (w3.alloc (.cells #[.int .i64 (3 * s.day + s.part)] 3)) wr.heap.size w3.heap.size (by omega) (by omega) (upto_bd hp.out) (below_cell hb5 t2) (by simp))
                    have hlen : (plan.take 0).length = 0 := by rw [List.length_take]; omega
                    have HLN := hide hlen; clear hlen
                    cases hadj : (plan.take 0).any (adjP s.who (3 * s.day + s.part))
                    · go_wp2_with (go_at_call 73; refine (Shift.ContainsFunc_n _ _ (adjP s.who (3 * s.day + s.part)) (plan.take 0) HLN.out hadj _ _ _ RT.out (by rw [HLN.out]; unfold maxLen; omega) PR.out).mono ?_; rintro e w4 ⟨rfl, hb6⟩)
                      go_roundw
                      case rel => exact ⟨0 + 1, by omega, by go_num, hide (upto_step hp.out (planAt_yes HG.out HRISE.out hadj)), below_step (below_step B3 hb5 (Nat.le_refl _)) hb6 (Nat.le_refl _), below_cell hb6 tx'⟩
                      case measure => simp [intOf]; omega
                    · go_wp2_with (go_at_call 73; refine (Shift.ContainsFunc_n _ _ (adjP s.who (3 * s.day + s.part)) (plan.take 0) HLN.out hadj _ _ _ RT.out (by rw [HLN.out]; unfold maxLen; omega) PR.out).mono ?_; rintro e w4 ⟨rfl, hb6⟩)
                      go_ret
                      exact ⟨ret_bool (plan_no hlt (planAt_adj HG.out hadj)).symm, below_step (below_step B3 hb5 (Nat.le_refl _)) hb6 (Nat.le_refl _)⟩
                  · have hgd := List.getElem?_eq_getElem (show k - 1 < plan.length by omega)
                    obtain ⟨p0, p1, p2, p3⟩ := hc (k - 1) _ hgd
                    generalize plan[k - 1] = p at *
                    have HP := hide hgd; clear hgd
                    have hk1' : (0 : Int) < (k : Int) := by omega
                    cases hlow : ltS p s
                    · have HL := hide hlow
                      have hb0 : decide (0 ≤ cmpS p s) = true := by simp only [ltS, decide_eq_false_iff_not] at hlow; simp; omega
                      clear hlow
                      go_wp2_with (go_at_call 69; refine (workerOf_is HI.out _ _ _ R0.out l0).mono ?_; rintro e w2 ⟨rfl, hb3⟩; have u0 := below_cell hb3 z0; have u1 := below_cell hb3 z1; have u2 := below_cell hb3 z2; have u3 := below_cell hb3 z3)
                      have q0 := after_cell (below_cell hb3 z0)
                      have q1 := after_cell (below_cell hb3 z1)
                      have q2 := after_cell (below_cell hb3 z2)
                      have q3 := after_cell (below_cell hb3 z3)
                      have qx := after_cell (below_cell hb3 (below_cell hb2 x1))
                      have qv := after_cell (below_cell hb3 (below_cell hb2 (below_cell hbel v2)))
                      have q0' := after_cell (below_cell hb3 (below_cell hb2 (below_cell hbel p0)))
                      have q1' := after_cell (below_cell hb3 (below_cell hb2 (below_cell hbel p1)))
                      have q2' := after_cell (below_cell hb3 (below_cell hb2 (below_cell hbel p2)))
                      have q3' := after_cell (below_cell hb3 (below_cell hb2 (below_cell hbel p3)))
                      refine wp_region_after (by kernel_rfl) (by kernel_rfl) ?_
                      repeat (go_big_quiet_step ((first | (go_at_call 70; exact Calls.after_same (isPart_is (by assumption) _)) | (go_at_call 71; exact Calls.after_same (isDuty_is (by assumption) _)) | (go_at_call 72; exact Calls.after (compareShifts_any p s _)))))
                      refine wpQuiet_nil ?_
                      rintro w3 ⟨⟨_, hb4⟩, rfl⟩
                      have B3 : Below w.heap.size w w3 := below_step (below_next hbel hb3 (Nat.le_refl _)) hb4 (Nat.le_refl _)
                      go_wp2_with fail
                      go_ret
                      exact ⟨ret_bool (plan_no hlt (planAt_rise (rise_low HG.out HP.out hk1 HL.out))).symm, B3⟩
                    · have HL := hide hlow
                      have hb0 : decide (0 ≤ cmpS p s) = false := by simp only [ltS, decide_eq_true_eq] at hlow; simp; omega
                      clear hlow
                      have HRISE := hide (rise_next (lt := ltS) HG.out HP.out HO.out HL.out)
                      go_wp2_with (go_at_call 69; refine (workerOf_is HI.out _ _ _ R0.out l0).mono ?_; rintro e w2 ⟨rfl, hb3⟩; have u0 := below_cell hb3 z0; have u1 := below_cell hb3 z1; have u2 := below_cell hb3 z2; have u3 := below_cell hb3 z3)
                      have q0 := after_cell (below_cell hb3 z0)
                      have q1 := after_cell (below_cell hb3 z1)
                      have q2 := after_cell (below_cell hb3 z2)
                      have q3 := after_cell (below_cell hb3 z3)
                      have qx := after_cell (below_cell hb3 (below_cell hb2 x1))
                      have qv := after_cell (below_cell hb3 (below_cell hb2 (below_cell hbel v2)))
                      have q0' := after_cell (below_cell hb3 (below_cell hb2 (below_cell hbel p0)))
                      have q1' := after_cell (below_cell hb3 (below_cell hb2 (below_cell hbel p1)))
                      have q2' := after_cell (below_cell hb3 (below_cell hb2 (below_cell hbel p2)))
                      have q3' := after_cell (below_cell hb3 (below_cell hb2 (below_cell hbel p3)))
                      refine wp_region_after (by kernel_rfl) (by kernel_rfl) ?_
                      repeat (go_big_quiet_step ((first | (go_at_call 70; exact Calls.after_same (isPart_is (by assumption) _)) | (go_at_call 71; exact Calls.after_same (isDuty_is (by assumption) _)) | (go_at_call 72; exact Calls.after (compareShifts_any p s _)))))
                      refine wpQuiet_nil ?_
                      rintro w3 ⟨⟨_, hb4⟩, rfl⟩
                      have B3 : Below w.heap.size w w3 := below_step (below_next hbel hb3 (Nat.le_refl _)) hb4 (Nat.le_refl _)
                      have t0 := below_cell hb4 u0; have t1 := below_cell hb4 u1; have t2 := below_cell hb4 u2; have t3 := below_cell hb4 u3
                      have tx : w3.cell? ⟨w.heap.size, 0, none⟩ = some (.slice (some ⟨b, o, none⟩) plan.length c1) := below_cell hb4 (below_cell hb3 (below_cell hb2 x1))
                      have hb5 : Below w3.heap.size w3 (w3.alloc (.cells #[.int .i64 (3 * s.day + s.part)] 3)) := (Below.refl _ _).alloc (Nat.le_refl _) _
                      have tx' := below_cell hb5 tx
                      have RT := hide (((r1.take k).later B3).later hb5)
                      have PR := hide (adj_pred s (3 * s.day + s.part) (plan.take k) (w3.alloc (.cells #[.int .i64 (3 * s.day + s.part)] 3)) wr.heap.size w3.heap.size (by omega) (by omega) (upto_bd hp.out) (below_cell hb5 t2) (by simp))
                      have hlen : (plan.take k).length = k := by rw [List.length_take]; omega
                      have HLN := hide hlen; clear hlen
                      cases hadj : (plan.take k).any (adjP s.who (3 * s.day + s.part))
                      · go_wp2_with (go_at_call 73; refine (Shift.ContainsFunc_n _ _ (adjP s.who (3 * s.day + s.part)) (plan.take k) HLN.out hadj _ _ _ RT.out (by rw [HLN.out]; unfold maxLen; omega) PR.out).mono ?_; rintro e w4 ⟨rfl, hb6⟩)
                        go_roundw
                        case rel => exact ⟨k + 1, by omega, by go_num, hide (upto_step hp.out (planAt_yes HG.out HRISE.out hadj)), below_step (below_step B3 hb5 (Nat.le_refl _)) hb6 (Nat.le_refl _), below_cell hb6 tx'⟩
                        case measure => simp [intOf]; omega
                      · go_wp2_with (go_at_call 73; refine (Shift.ContainsFunc_n _ _ (adjP s.who (3 * s.day + s.part)) (plan.take k) HLN.out hadj _ _ _ RT.out (by rw [HLN.out]; unfold maxLen; omega) PR.out).mono ?_; rintro e w4 ⟨rfl, hb6⟩)
                        go_ret
                        exact ⟨ret_bool (plan_no hlt (planAt_adj HG.out hadj)).symm, below_step (below_step B3 hb5 (Nat.le_refl _)) hb6 (Nat.le_refl _)⟩
                · have HB := hide (show oneS staff s = false by simp [oneS, HD.out, h2])
                  go_wp2_with (go_at_call 69; refine (workerOf_is HI.out _ _ _ R0.out l0).mono ?_; rintro e w2 ⟨rfl, hb3⟩; have u0 := below_cell hb3 z0; have u1 := below_cell hb3 z1; have u2 := below_cell hb3 z2; have u3 := below_cell hb3 z3)
                  have q0 := after_cell (below_cell hb3 z0)
                  have q1 := after_cell (below_cell hb3 z1)
                  have q2 := after_cell (below_cell hb3 z2)
                  have q3 := after_cell (below_cell hb3 z3)
                  have qx := after_cell (below_cell hb3 (below_cell hb2 x1))
                  have qv := after_cell (below_cell hb3 (below_cell hb2 (below_cell hbel v2)))
                  refine wp_region_after (by kernel_rfl) (by kernel_rfl) ?_
                  repeat (go_big_quiet_step ((first | (go_at_call 70; exact Calls.after_same (isPart_is (by assumption) _)) | (go_at_call 71; exact Calls.after_same (isDuty_is (by assumption) _)) | (go_at_call 72; exact Calls.after (compareShifts_any p s _)))))
                  refine wpQuiet_nil ?_
                  rintro w3 ⟨⟨_, hb4⟩, rfl⟩
                  have B3 : Below w.heap.size w w3 := below_step (below_next hbel hb3 (Nat.le_refl _)) hb4 (Nat.le_refl _)
                  go_wp2_with fail
                  go_ret
                  exact ⟨ret_bool (plan_no hlt (planAt_rise (rise_bad HG.out HB.out))).symm, B3⟩
        · have hkn : k = plan.length := by omega
          subst hkn
          have R0 := hide (r0.later hbel)
          have PR := hide (over_pred plan A1 c1 staff wr w.heap.size (r1.later hbel) (by omega) x1)
          have HA := hide (allAt_yes (Nat.le_refl _) hp.out)
          cases hov : staff.any (overP plan)
          · go_wp2_with (go_at_call 75; refine (Worker.ContainsFunc_n _ _ (overP plan) staff rfl hov _ _ _ R0.out l0 PR.out).mono ?_; rintro e w4 ⟨rfl, hb6⟩)
            go_ret
            exact ⟨ret_bool (by simp [planB, hst'.out, hov, HA.out]; omega), below_step hbel hb6 (Nat.le_refl _)⟩
          · go_wp2_with (go_at_call 75; refine (Worker.ContainsFunc_n _ _ (overP plan) staff rfl hov _ _ _ R0.out l0 PR.out).mono ?_; rintro e w4 ⟨rfl, hb6⟩)
            go_ret
            exact ⟨ret_bool (by simp [planB, hov]), below_step hbel hb6 (Nat.le_refl _)⟩
end Go.Proofs.Ytfaicjlpncidgaa
