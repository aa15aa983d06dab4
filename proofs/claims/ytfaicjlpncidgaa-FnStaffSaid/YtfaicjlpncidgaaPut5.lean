/- PutShift: the reference's function; who can have one shift more: both functions. -/
import Derived.Test.YtfaicjlpncidgaaPut3
import Derived.Test.YtfaicjlpncidgaaInts
namespace Go.Proofs.Ytfaicjlpncidgaa
open Go Go.RowKit
set_option linter.unusedVariables false
theorem l22Plan_n {staff : List Worker} {plan : List Shift} {b : Bool} {n : Nat} (h : planB staff plan = b) (hn : plan.length = n) (A0 A1 : Option Addr) (c0 c1 : Nat) (w : World) (r0 : Rd Worker.enc 4 w.heap.size w A0 staff) (r1 : Rd Shift.enc 4 w.heap.size w A1 plan) (ok0 : ∀ c ∈ staff, c.Ok) (l0 : staff.length ≤ maxLen) (l1 : plan.length ≤ maxLen) :
    Calls Try.prog 68 #[.slice A0 staff.length c0, .slice A1 n c1] w fun e w' => e = .returned (.bool b) ∧ Below w.heap.size w w' := by
  subst hn; exact l22Plan_is h A0 A1 c0 c1 w r0 r1 ok0 l0 l1
theorem l22Put_is {plan Z : List Shift} {s : Shift} (hz : insL plan (posOf (lowT s) plan) s = Z) (A : Option Addr) (cap : Nat) (w : World) (r1 : Rd Shift.enc 4 w.heap.size w A plan) (l1 : plan.length ≤ 1000) (hnil : A = none → cap = 0) (hcap : plan.length ≤ cap) :
    Calls Try.prog 91 #[.slice A plan.length cap, .agg #[.int .i64 s.day, .int .i64 s.part, .int .i64 s.who, .int .i64 s.duty]] w (Gives (plan.length + 1) (fun v => v) (fun w' v => Own Shift.enc 4 66 w.heap.size w' v Z) w) := by
  subst hz; exact l22Put_any plan s A cap w r1 l1 hnil hcap
theorem insT_len (plan : List Shift) (s : Shift) : (insL plan (posOf (lowT s) plan) s).length = plan.length + 1 := insL_len _ _ _ (pos_le _ _)
set_option maxRecDepth 100000 in
set_option maxHeartbeats 4000000 in
theorem PutShift_spec (staff : List Worker) (plan : List Shift) (s : Shift) (A0 A1 : Option Addr) (c0 c1 : Nat) (w : World) (r0 : Rd Worker.enc 4 w.heap.size w A0 staff) (r1 : Rd Shift.enc 4 w.heap.size w A1 plan) (ok0 : ∀ c ∈ staff, c.Ok) (l0 : staff.length ≤ maxLen) (l1 : plan.length ≤ maxLen) (hnil : A1 = none → c1 = 0) (hcap : plan.length ≤ c1) :
    Calls Try.prog 48 #[.slice A0 staff.length c0, .slice A1 plan.length c1, .agg #[.int .i64 s.day, .int .i64 s.part, .int .i64 s.who, .int .i64 s.duty]] w (Gives (putRL staff plan s).length (fun v => .tuple #[v, .bool (putRB staff plan s)]) (fun w' v => Own Shift.enc 4 66 w.heap.size w' v (putRL staff plan s)) w) := by
  have BB : Below w.heap.size w (w.alloc (.cells #[.int .i64 s.day, .int .i64 s.part, .int .i64 s.who, .int .i64 s.duty] 66)) := (Below.refl _ _).alloc (Nat.le_refl _) _
  have x0 : (w.alloc (.cells #[.int .i64 s.day, .int .i64 s.part, .int .i64 s.who, .int .i64 s.duty] 66)).cell? ⟨w.heap.size, 0, none⟩ = some (.int .i64 s.day) := by simp
  have x1 : (w.alloc (.cells #[.int .i64 s.day, .int .i64 s.part, .int .i64 s.who, .int .i64 s.duty] 66)).cell? ⟨w.heap.size, 1, none⟩ = some (.int .i64 s.part) := by simp
  have x2 : (w.alloc (.cells #[.int .i64 s.day, .int .i64 s.part, .int .i64 s.who, .int .i64 s.duty] 66)).cell? ⟨w.heap.size, 2, none⟩ = some (.int .i64 s.who) := by simp
  have x3 : (w.alloc (.cells #[.int .i64 s.day, .int .i64 s.part, .int .i64 s.who, .int .i64 s.duty] 66)).cell? ⟨w.heap.size, 3, none⟩ = some (.int .i64 s.duty) := by simp
  cases hp : planB staff plan
  · have HP := hide hp
    have HL := hide (show putRL staff plan s = [] by simp [putRL, hp])
    have HB := hide (show putRB staff plan s = false by simp [putRB, hp])
    clear hp
    go_enter Try.func48, Try.ntmps48
    go_wp2_with (go_at_call 68; refine (l22Plan_is HP.out _ _ _ _ _ (r0.later BB) (r1.later BB) ok0 l0 l1).mono ?_; rintro e w1 ⟨rfl, hb⟩; replace BB := below_step BB hb (Nat.le_refl _))
    go_ret2
    rw [HL.out, HB.out]
    exact ⟨_, _, rfl, own_empty BB.size, below_step BB ((Below.refl _ _).alloc (Nat.le_refl _) _) (Nat.le_refl _)⟩
  · have HP := hide hp
    have hlen := planB_len hp
    have hzl := insT_len plan s
    have hps := put_same (s := s) hp
    have hpl : putB staff plan s = true → insL plan (posOf (lowT s) plan) s = putL staff plan s := putL_same hp
    have HLT := hide (show putRL staff plan s = putL staff plan s by simp [putRL, hp])
    have HBT := hide (show putRB staff plan s = putB staff plan s by simp [putRB, hp])
    have HLF := hide (show putB staff plan s = false → putL staff plan s = [] from fun h => by simp [putL, h])
    obtain ⟨Z, hZ⟩ : ∃ Z, Z = insL plan (posOf (lowT s) plan) s := ⟨_, rfl⟩
    rw [← hZ] at hzl hps hpl
    have HZ := hide hZ.symm; have HZL := hide hzl; have HPL := hide hpl
    clear hZ hzl hpl hp
    cases hq : putB staff plan s
    all_goals
      have HQ := hide (hps.trans hq); have HQB := hide hq
      clear hq hps
      go_enter Try.func48, Try.ntmps48
      go_wp2_with fail
      refine (l22Plan_is HP.out _ _ _ _ _ (r0.later BB) (r1.later BB) ok0 l0 l1).mono ?_
      rintro e w1 ⟨rfl, hb⟩
      have HW := BB.size; replace BB := below_step BB hb (Nat.le_refl _); replace x0 := below_cell hb x0; replace x1 := below_cell hb x1; replace x2 := below_cell hb x2; replace x3 := below_cell hb x3; clear hb
      go_wp2_with fail
      refine (l22Put_is HZ.out _ _ _ (r1.later BB) (by omega) hnil hcap).mono ?_
      rintro e w2 ⟨Ap, cp, rfl, hop, hb⟩
      have ROZ := Own.rd_of Shift.enc_len hop
      clear hop
      clear HW
      have HW := BB.size; replace BB := below_step BB hb (Nat.le_refl _); replace x0 := below_cell hb x0; replace x1 := below_cell hb x1; replace x2 := below_cell hb x2; replace x3 := below_cell hb x3; clear hb
      go_wp2_with fail
      refine (l22Plan_n HQ.out HZL.out _ _ _ _ _ (r0.later BB) ROZ ok0 l0 (by rw [HZL.out]; unfold maxLen; omega)).mono ?_
      rintro e w3 ⟨rfl, hb⟩
      clear HW
      have HW := BB.size; replace BB := below_step BB hb (Nat.le_refl _); replace x0 := below_cell hb x0; replace x1 := below_cell hb x1; replace x2 := below_cell hb x2; replace x3 := below_cell hb x3; clear hb
      go_wp2_with fail
    · go_ret2
      rw [HLT.out, HBT.out, HQB.out, HLF.out HQB.out]
      exact ⟨_, _, rfl, own_empty BB.size, below_step BB ((Below.refl _ _).alloc (Nat.le_refl _) _) (Nat.le_refl _)⟩
    · refine (l22Put_is HZ.out _ _ _ (r1.later BB) (by omega) hnil hcap).mono ?_
      rintro e w4 ⟨Aq, cq, rfl, hoq, hb⟩
      have BE := below_step BB hb (Nat.le_refl _)
      go_wp2_with fail
      go_ret2
      rw [HLT.out, HBT.out, HQB.out, ← HPL.out HQB.out]
      exact ⟨_, _, by rw [HZL.out]; rfl, by rw [HZL.out]; exact Own.mono_ hoq BB.size, BE⟩
/- who can have one shift more -/
def canP (staff : List Worker) (plan : List Shift) (day part duty : Int) (k : Worker) : Bool := putB staff plan ⟨day, part, k.id, duty⟩
def canT (staff : List Worker) (plan : List Shift) (day part duty : Int) (L : List Worker) : List Int := (L.filter (canP staff plan day part duty)).map (·.id)
def canL (staff : List Worker) (plan : List Shift) (day part duty : Int) : List Int := canT staff plan day part duty staff
theorem can_yes {staff L : List Worker} {plan : List Shift} {day part duty : Int} {k : Nat} (h : k < L.length) (hd : canP staff plan day part duty L[k] = true) : canT staff plan day part duty (L.take (k + 1)) = canT staff plan day part duty (L.take k) ++ [L[k].id] := by
  rw [take_snocL L k h, canT, canT, List.filter_append, List.map_append]; simp [hd]
theorem can_no {staff L : List Worker} {plan : List Shift} {day part duty : Int} {k : Nat} (h : k < L.length) (hd : canP staff plan day part duty L[k] = false) : canT staff plan day part duty (L.take (k + 1)) = canT staff plan day part duty (L.take k) := by
  rw [take_snocL L k h, canT, canT, List.filter_append, List.map_append]; simp [hd]
theorem can_len (staff L : List Worker) (plan : List Shift) (day part duty : Int) : (canT staff plan day part duty L).length ≤ L.length := by
  rw [canT, List.length_map]; exact List.length_filter_le _ _
theorem planB_staff {staff : List Worker} {plan : List Shift} (h : planB staff plan = true) : staff.length ≤ 8 := by
  have h2 : staffB staff = true := by
    cases hs : staffB staff
    · simp [planB, hs] at h
    · rfl
  exact riseB_len h2
set_option maxRecDepth 100000 in
set_option maxHeartbeats 4000000 in
theorem l22Can_any (staff : List Worker) (plan : List Shift) (day part duty : Int) (hp : planB staff plan = true) (A0 A1 : Option Addr) (c0 c1 : Nat) (w : World) (r0 : Rd Worker.enc 4 w.heap.size w A0 staff) (r1 : Rd Shift.enc 4 w.heap.size w A1 plan) (ok0 : ∀ c ∈ staff, c.Ok) (hnil : A1 = none → c1 = 0) (hcap : plan.length ≤ c1) :
    Calls Try.prog 95 #[.slice A0 staff.length c0, .slice A1 plan.length c1, .int .i64 day, .int .i64 part, .int .i64 duty] w (Gives (canL staff plan day part duty).length (fun v => v) (fun w' v => Own encI 1 3 w.heap.size w' v (canL staff plan day part duty)) w) := by
  have hlen := planB_len hp
  have hs8 := planB_staff hp
  have l0 : staff.length ≤ maxLen := by unfold maxLen; omega
  have HP := hide hp; clear hp
  go_enter Try.func95, Try.ntmps95
  go_wp2_with fail
  have hba : Below w.heap.size w (w.alloc (.cells #[] 3)) := (Below.refl _ _).alloc (Nat.le_refl _) _
  have howa : Own encI 1 3 w.heap.size (w.alloc (.cells #[] 3)) (.slice (some ⟨w.heap.size, 0, none⟩) 0 0) [] := own_empty (Nat.le_refl _)
  go_loopw [12, 11] (fun i m wr => ∃ (k : Nat) (A' : Option Addr) (cap' : Nat), k ≤ staff.length ∧ i = .int .i64 k ∧ m = .slice A' (canT staff plan day part duty (staff.take k)).length cap' ∧ Own encI 1 3 w.heap.size wr (.slice A' (canT staff plan day part duty (staff.take k)).length cap') (canT staff plan day part duty (staff.take k)) ∧ Below w.heap.size w wr) (fun i _ _ => staff.length - (intOf i).toNat)
  case atStart => exact ⟨0, _, _, Nat.zero_le _, rfl, rfl, howa, hba⟩
  case round =>
    clear hba howa
    obtain ⟨k, A', cap', hk, rfl, rfl, hown, hbel⟩ := hrel
    by_cases hlt : k < staff.length
    · obtain ⟨b, o, rfl, hb, hc⟩ := Worker.rd_at r0 (by intro h; subst h; simp at hlt)
      obtain ⟨x0, x1, x2, x3⟩ := hc k _ (List.getElem?_eq_getElem hlt)
      have HY := hide (can_yes (staff := staff) (plan := plan) (day := day) (part := part) (duty := duty) hlt)
      have HN := hide (can_no (staff := staff) (plan := plan) (day := day) (part := part) (duty := duty) hlt)
      have hul := can_len staff (staff.take k) plan day part duty
      have htl : (staff.take k).length ≤ 8 := by rw [List.length_take]; omega
      have hki : (k : Int) < (staff.length : Int) := by omega
      generalize staff[k] = c at *
      replace x0 := below_cell hbel x0
      replace x1 := below_cell hbel x1
      replace x2 := below_cell hbel x2
      replace x3 := below_cell hbel x3
      clear hc
      generalize canT staff plan day part duty (staff.take k) = U at *
      have HZ := hide (show insL plan (posOf (lowT (⟨day, part, c.id, duty⟩ : Shift)) plan) ⟨day, part, c.id, duty⟩ = _ from rfl)
      have HZL := hide (insT_len plan ⟨day, part, c.id, duty⟩)
      have hps := put_same (s := ⟨day, part, c.id, duty⟩) HP.out
      obtain ⟨Z, hZ⟩ : ∃ Z, Z = insL plan (posOf (lowT (⟨day, part, c.id, duty⟩ : Shift)) plan) ⟨day, part, c.id, duty⟩ := ⟨_, rfl⟩
      rw [← hZ] at hps HZL
      have HZ := hide hZ.symm; clear hZ
      cases hq : canP staff plan day part duty c
      · have HQ := hide (hps.trans hq)
        go_wp2_with (first | (go_at_call 68; refine (l22Plan_n HQ.out HZL.out _ _ _ _ _ (r0.later (below_step hbel hbp (Nat.le_refl _))) ROZ ok0 l0 (by rw [HZL.out]; unfold maxLen; omega)).mono ?_; rintro e w3 ⟨rfl, hbq⟩; have BB := below_step (below_step hbel hbp (Nat.le_refl _)) hbq (Nat.le_refl _); have y0 := below_cell hbq y0; have hown := Own.below (Own.below hown hbp) hbq) | (go_at_call 91; refine (l22Put_is (s := ⟨day, part, c.id, duty⟩) HZ.out _ _ _ (r1.later hbel) (by omega) hnil hcap).mono ?_; rintro e w2 ⟨Ap, cp, rfl, hop, hbp⟩; have ROZ := Own.rd_of Shift.enc_len hop; clear hop; have y0 := below_cell hbp x0))
        go_roundw
        case rel => exact ⟨k + 1, A', cap', by omega, by go_num, sl_eq (by rw [HN.out hq]), by rw [HN.out hq]; exact hown, BB⟩
        case measure => simp [intOf] <;> omega
      · have HQ := hide (hps.trans hq)
        go_wp2_with (first | (go_at_call 68; refine (l22Plan_n HQ.out HZL.out _ _ _ _ _ (r0.later (below_step hbel hbp (Nat.le_refl _))) ROZ ok0 l0 (by rw [HZL.out]; unfold maxLen; omega)).mono ?_; rintro e w3 ⟨rfl, hbq⟩; have BB := below_step (below_step hbel hbp (Nat.le_refl _)) hbq (Nat.le_refl _); have y0 := below_cell hbq y0; have hown := Own.below (Own.below hown hbp) hbq) | (go_at_call 91; refine (l22Put_is (s := ⟨day, part, c.id, duty⟩) HZ.out _ _ _ (r1.later hbel) (by omega) hnil hcap).mono ?_; rintro e w2 ⟨Ap, cp, rfl, hop, hbp⟩; have ROZ := Own.rd_of Shift.enc_len hop; clear hop; have y0 := below_cell hbp x0) | (at_builtin; refine wpList_push _ rfl (.tmp 33) (.tmp 39) 29 3 rfl Try.underlying29 infoI rfl (by omega) (by omega) encI_len encI_one w.heap.size A' cap' U c.id _ rfl rfl _ rfl rfl hown BB.size (by omega) ?_; intro A2 cap2 w4 ho4 hb4))
        go_roundw
        case rel => exact ⟨k + 1, A2, cap2, by omega, by go_num, sl_eq (by rw [HY.out hq]; simp), by rw [HY.out hq, List.length_append]; exact ho4, BB.trans hb4⟩
        case measure => simp [intOf] <;> omega
    · obtain rfl : k = staff.length := by omega
      rw [List.take_length] at hown ⊢
      go_wp2_with fail
      go_ret
      exact ⟨A', cap', rfl, hown, hbel⟩
set_option maxRecDepth 100000 in
set_option maxHeartbeats 4000000 in
theorem whoCan_any (staff : List Worker) (plan : List Shift) (day part duty : Int) (hp : planB staff plan = true) (A0 A1 : Option Addr) (c0 c1 : Nat) (w : World) (r0 : Rd Worker.enc 4 w.heap.size w A0 staff) (r1 : Rd Shift.enc 4 w.heap.size w A1 plan) (ok0 : ∀ c ∈ staff, c.Ok) :
    Calls Try.prog 96 #[.slice A0 staff.length c0, .slice A1 plan.length c1, .int .i64 day, .int .i64 part, .int .i64 duty] w (Gives (canL staff plan day part duty).length (fun v => v) (fun w' v => Own encI 1 3 w.heap.size w' v (canL staff plan day part duty)) w) := by
  have hlen := planB_len hp
  have hs8 := planB_staff hp
  have l0 : staff.length ≤ maxLen := by unfold maxLen; omega
  have HP := hide hp; clear hp
  go_enter Try.func96, Try.ntmps96
  go_wp2_with fail
  have hba : Below w.heap.size w (w.alloc (.cells #[] 3)) := (Below.refl _ _).alloc (Nat.le_refl _) _
  have howa : Own encI 1 3 w.heap.size (w.alloc (.cells #[] 3)) (.slice (some ⟨w.heap.size, 0, none⟩) 0 0) [] := own_empty (Nat.le_refl _)
  go_loopw [19, 11] (fun i m wr => ∃ (k : Nat) (A' : Option Addr) (cap' : Nat), k ≤ staff.length ∧ i = .int .i64 k ∧ m = .slice A' (canT staff plan day part duty (staff.take k)).length cap' ∧ Own encI 1 3 w.heap.size wr (.slice A' (canT staff plan day part duty (staff.take k)).length cap') (canT staff plan day part duty (staff.take k)) ∧ Below w.heap.size w wr) (fun i _ _ => staff.length - (intOf i).toNat)
  case atStart => exact ⟨0, _, _, Nat.zero_le _, rfl, rfl, howa, hba⟩
  case round =>
    clear hba howa
    obtain ⟨k, A', cap', hk, rfl, rfl, hown, hbel⟩ := hrel
    by_cases hlt : k < staff.length
    · obtain ⟨b, o, rfl, hb, hc⟩ := Worker.rd_at r0 (by intro h; subst h; simp at hlt)
      obtain ⟨x0, x1, x2, x3⟩ := hc k _ (List.getElem?_eq_getElem hlt)
      have HY := hide (can_yes (staff := staff) (plan := plan) (day := day) (part := part) (duty := duty) hlt)
      have HN := hide (can_no (staff := staff) (plan := plan) (day := day) (part := part) (duty := duty) hlt)
      have hul := can_len staff (staff.take k) plan day part duty
      have htl : (staff.take k).length ≤ 8 := by rw [List.length_take]; omega
      have hki : (k : Int) < (staff.length : Int) := by omega
      generalize staff[k] = c at *
      replace x0 := below_cell hbel x0
      replace x1 := below_cell hbel x1
      replace x2 := below_cell hbel x2
      replace x3 := below_cell hbel x3
      clear hc
      generalize canT staff plan day part duty (staff.take k) = U at *
      have hbx : Below wr.heap.size wr (wr.alloc (.cells #[.int .i64 c.id, .string c.name, .int .i64 c.duties, .int .i64 c.hours] 75)) := (Below.refl _ _).alloc (Nat.le_refl _) _
      have BX := below_step hbel hbx (Nat.le_refl _)
      have z0 := (Worker.box_after wr c 75 ⟨_, Below.refl _ _⟩).1
      cases hq : canP staff plan day part duty c
      · have HQ := hide (show putB staff plan ⟨day, part, c.id, duty⟩ = _ from hq)
        go_wp2_with (first | (go_at_call 92; refine (putShift_is (s := ⟨day, part, c.id, duty⟩) HP.out HQ.out rfl _ _ _ _ _ (r0.later BX) (r1.later BX) ok0 l0).mono ?_; rintro e w2 ⟨Ap, cp, rfl, hop, hbq⟩; clear hop; have BB := below_step BX hbq (Nat.le_refl _); have y0 := below_cell hbq z0; have hown := Own.below (Own.below hown hbx) hbq))
        go_roundw
        case rel => exact ⟨k + 1, A', cap', by omega, by go_num, sl_eq (by rw [HN.out hq]), by rw [HN.out hq]; exact hown, BB⟩
        case measure => simp [intOf] <;> omega
      · have HQ := hide (show putB staff plan ⟨day, part, c.id, duty⟩ = _ from hq)
        go_wp2_with (first | (go_at_call 92; refine (putShift_is (s := ⟨day, part, c.id, duty⟩) HP.out HQ.out rfl _ _ _ _ _ (r0.later BX) (r1.later BX) ok0 l0).mono ?_; rintro e w2 ⟨Ap, cp, rfl, hop, hbq⟩; clear hop; have BB := below_step BX hbq (Nat.le_refl _); have y0 := below_cell hbq z0; have hown := Own.below (Own.below hown hbx) hbq) | (at_builtin; refine wpList_push _ rfl (.tmp 36) (.tmp 39) 29 3 rfl Try.underlying29 infoI rfl (by omega) (by omega) encI_len encI_one w.heap.size A' cap' U c.id _ rfl rfl _ rfl rfl hown BB.size (by omega) ?_; intro A2 cap2 w4 ho4 hb4))
        go_roundw
        case rel => exact ⟨k + 1, A2, cap2, by omega, by go_num, sl_eq (by rw [HY.out hq]; simp), by rw [HY.out hq, List.length_append]; exact ho4, BB.trans hb4⟩
        case measure => simp [intOf] <;> omega
    · obtain rfl : k = staff.length := by omega
      rw [List.take_length] at hown ⊢
      go_wp2_with fail
      go_ret
      exact ⟨A', cap', rfl, hown, hbel⟩
def whoB (staff : List Worker) (plan : List Shift) (day part duty : Int) : Bool := planB staff plan && (partB day part && dutyB duty)
def whoL (staff : List Worker) (plan : List Shift) (day part duty : Int) : List Int := if whoB staff plan day part duty then canL staff plan day part duty else []
theorem whoL_len (staff : List Worker) (plan : List Shift) (day part duty : Int) : (whoL staff plan day part duty).length ≤ 8 := by
  unfold whoL
  split
  · rename_i h
    simp only [whoB, Bool.and_eq_true] at h
    exact Nat.le_trans (can_len ..) (planB_staff h.1)
  · simp
set_option maxRecDepth 100000 in
set_option maxHeartbeats 2000000 in
theorem WhoCan_spec (staff : List Worker) (plan : List Shift) (day part duty : Int) (A0 A1 : Option Addr) (c0 c1 : Nat) (w : World) (r0 : Rd Worker.enc 4 w.heap.size w A0 staff) (r1 : Rd Shift.enc 4 w.heap.size w A1 plan) (ok0 : ∀ c ∈ staff, c.Ok) (l0 : staff.length ≤ maxLen) (l1 : plan.length ≤ maxLen) (hnil : A1 = none → c1 = 0) (hcap : plan.length ≤ c1) :
    Calls Try.prog 51 #[.slice A0 staff.length c0, .slice A1 plan.length c1, .int .i64 day, .int .i64 part, .int .i64 duty] w (Gives (whoL staff plan day part duty).length (fun v => .tuple #[v, .bool (whoB staff plan day part duty)]) (fun w' v => Own encI 1 3 w.heap.size w' v (whoL staff plan day part duty)) w) := by
  cases h0 : planB staff plan
  · have HB := hide (show whoB staff plan day part duty = false by simp [whoB, h0])
    have HL := hide (show whoL staff plan day part duty = [] by rw [whoL, if_neg (by rw [HB.out]; decide)])
    have HP := hide h0
    clear h0
    go_enter Try.func51, Try.ntmps51
    go_wp2_with (first | (go_at_call 68; refine (l22Plan_is HP.out _ _ _ _ _ r0 r1 ok0 l0 l1).mono ?_; rintro e w1 ⟨rfl, hb1⟩) | (go_at_call 93; refine (l22Part_is (by assumption) _).mono ?_; rintro e w2 ⟨rfl, rfl⟩) | (go_at_call 94; refine (l22Duty_is (by assumption) _).mono ?_; rintro e w3 ⟨rfl, rfl⟩))
    go_ret2
    rw [HL.out, HB.out]
    exact ⟨_, _, rfl, own_empty hb1.size, below_step hb1 ((Below.refl _ _).alloc (Nat.le_refl _) _) (Nat.le_refl _)⟩
  cases h1 : partB day part
  · have HB := hide (show whoB staff plan day part duty = false by simp [whoB, h0, h1])
    have HL := hide (show whoL staff plan day part duty = [] by rw [whoL, if_neg (by rw [HB.out]; decide)])
    have HP := hide h0
    clear h0
    go_enter Try.func51, Try.ntmps51
    go_wp2_with (first | (go_at_call 68; refine (l22Plan_is HP.out _ _ _ _ _ r0 r1 ok0 l0 l1).mono ?_; rintro e w1 ⟨rfl, hb1⟩) | (go_at_call 93; refine (l22Part_is (by assumption) _).mono ?_; rintro e w2 ⟨rfl, rfl⟩) | (go_at_call 94; refine (l22Duty_is (by assumption) _).mono ?_; rintro e w3 ⟨rfl, rfl⟩))
    go_ret2
    rw [HL.out, HB.out]
    exact ⟨_, _, rfl, own_empty hb1.size, below_step hb1 ((Below.refl _ _).alloc (Nat.le_refl _) _) (Nat.le_refl _)⟩
  cases h2 : dutyB duty
  · have HB := hide (show whoB staff plan day part duty = false by simp [whoB, h0, h1, h2])
    have HL := hide (show whoL staff plan day part duty = [] by rw [whoL, if_neg (by rw [HB.out]; decide)])
    have HP := hide h0
    clear h0
    go_enter Try.func51, Try.ntmps51
    go_wp2_with (first | (go_at_call 68; refine (l22Plan_is HP.out _ _ _ _ _ r0 r1 ok0 l0 l1).mono ?_; rintro e w1 ⟨rfl, hb1⟩) | (go_at_call 93; refine (l22Part_is (by assumption) _).mono ?_; rintro e w2 ⟨rfl, rfl⟩) | (go_at_call 94; refine (l22Duty_is (by assumption) _).mono ?_; rintro e w3 ⟨rfl, rfl⟩))
    go_ret2
    rw [HL.out, HB.out]
    exact ⟨_, _, rfl, own_empty hb1.size, below_step hb1 ((Below.refl _ _).alloc (Nat.le_refl _) _) (Nat.le_refl _)⟩
  have HB := hide (show whoB staff plan day part duty = true by simp [whoB, h0, h1, h2])
  have HL := hide (show whoL staff plan day part duty = canL staff plan day part duty by rw [whoL, if_pos HB.out])
  have HP := hide h0; clear h0
  go_enter Try.func51, Try.ntmps51
  go_wp2_with (first | (go_at_call 68; refine (l22Plan_is HP.out _ _ _ _ _ r0 r1 ok0 l0 l1).mono ?_; rintro e w1 ⟨rfl, hb1⟩) | (go_at_call 93; refine (l22Part_is (by assumption) _).mono ?_; rintro e w2 ⟨rfl, rfl⟩) | (go_at_call 94; refine (l22Duty_is (by assumption) _).mono ?_; rintro e w3 ⟨rfl, rfl⟩) | (go_at_call 95; refine (l22Can_any staff plan day part duty HP.out _ _ _ _ _ (r0.later hb1) (r1.later hb1) ok0 hnil hcap).mono ?_; rintro e w4 ⟨Ac, cc, rfl, hoc, hb4⟩))
  go_ret2
  rw [HL.out, HB.out]
  exact ⟨Ac, cc, rfl, Own.mono_ hoc hb1.size, below_step hb1 hb4 (Nat.le_refl _)⟩
set_option maxRecDepth 100000 in
set_option maxHeartbeats 2000000 in
theorem WhoCan_any (staff : List Worker) (plan : List Shift) (day part duty : Int) (A0 A1 : Option Addr) (c0 c1 : Nat) (w : World) (r0 : Rd Worker.enc 4 w.heap.size w A0 staff) (r1 : Rd Shift.enc 4 w.heap.size w A1 plan) (ok0 : ∀ c ∈ staff, c.Ok) (l0 : staff.length ≤ maxLen) (l1 : plan.length ≤ maxLen) (hcap : plan.length ≤ c1) :
    Calls Try.prog 52 #[.slice A0 staff.length c0, .slice A1 plan.length c1, .int .i64 day, .int .i64 part, .int .i64 duty] w (Gives (whoL staff plan day part duty).length (fun v => .tuple #[v, .bool (whoB staff plan day part duty)]) (fun w' v => Own encI 1 3 w.heap.size w' v (whoL staff plan day part duty)) w) := by
  cases h0 : planB staff plan
  · have HB := hide (show whoB staff plan day part duty = false by simp [whoB, h0])
    have HL := hide (show whoL staff plan day part duty = [] by rw [whoL, if_neg (by rw [HB.out]; decide)])
    have HP := hide h0
    clear h0
    go_enter Try.func52, Try.ntmps52
    go_wp2_with (first | (go_at_call 28; refine (IsPlan_is HP.out _ _ _ _ _ r0 r1 ok0 l0 l1 hcap).mono ?_; rintro e w1 ⟨rfl, hb1⟩) | (go_at_call 70; refine (isPart_is (by assumption) _).mono ?_; rintro e w2 ⟨rfl, rfl⟩) | (go_at_call 71; refine (isDuty_is (by assumption) _).mono ?_; rintro e w3 ⟨rfl, rfl⟩))
    go_ret2
    rw [HL.out, HB.out]
    exact ⟨none, 0, rfl, own_nil _ _ _, hb1⟩
  cases h1 : partB day part
  · have HB := hide (show whoB staff plan day part duty = false by simp [whoB, h0, h1])
    have HL := hide (show whoL staff plan day part duty = [] by rw [whoL, if_neg (by rw [HB.out]; decide)])
    have HP := hide h0
    clear h0
    go_enter Try.func52, Try.ntmps52
    go_wp2_with (first | (go_at_call 28; refine (IsPlan_is HP.out _ _ _ _ _ r0 r1 ok0 l0 l1 hcap).mono ?_; rintro e w1 ⟨rfl, hb1⟩) | (go_at_call 70; refine (isPart_is (by assumption) _).mono ?_; rintro e w2 ⟨rfl, rfl⟩) | (go_at_call 71; refine (isDuty_is (by assumption) _).mono ?_; rintro e w3 ⟨rfl, rfl⟩))
    go_ret2
    rw [HL.out, HB.out]
    exact ⟨none, 0, rfl, own_nil _ _ _, hb1⟩
  cases h2 : dutyB duty
  · have HB := hide (show whoB staff plan day part duty = false by simp [whoB, h0, h1, h2])
    have HL := hide (show whoL staff plan day part duty = [] by rw [whoL, if_neg (by rw [HB.out]; decide)])
    have HP := hide h0
    clear h0
    go_enter Try.func52, Try.ntmps52
    go_wp2_with (first | (go_at_call 28; refine (IsPlan_is HP.out _ _ _ _ _ r0 r1 ok0 l0 l1 hcap).mono ?_; rintro e w1 ⟨rfl, hb1⟩) | (go_at_call 70; refine (isPart_is (by assumption) _).mono ?_; rintro e w2 ⟨rfl, rfl⟩) | (go_at_call 71; refine (isDuty_is (by assumption) _).mono ?_; rintro e w3 ⟨rfl, rfl⟩))
    go_ret2
    rw [HL.out, HB.out]
    exact ⟨none, 0, rfl, own_nil _ _ _, hb1⟩
  have HB := hide (show whoB staff plan day part duty = true by simp [whoB, h0, h1, h2])
  have HL := hide (show whoL staff plan day part duty = canL staff plan day part duty by rw [whoL, if_pos HB.out])
  have HP := hide h0; clear h0
  go_enter Try.func52, Try.ntmps52
  go_wp2_with (first | (go_at_call 28; refine (IsPlan_is HP.out _ _ _ _ _ r0 r1 ok0 l0 l1 hcap).mono ?_; rintro e w1 ⟨rfl, hb1⟩) | (go_at_call 70; refine (isPart_is (by assumption) _).mono ?_; rintro e w2 ⟨rfl, rfl⟩) | (go_at_call 71; refine (isDuty_is (by assumption) _).mono ?_; rintro e w3 ⟨rfl, rfl⟩) | (go_at_call 96; refine (whoCan_any staff plan day part duty HP.out _ _ _ _ _ (r0.later hb1) (r1.later hb1) ok0).mono ?_; rintro e w4 ⟨Ac, cc, rfl, hoc, hb4⟩))
  go_ret2
  rw [HL.out, HB.out]
  exact ⟨Ac, cc, rfl, Own.mono_ hoc hb1.size, below_step hb1 hb4 (Nat.le_refl _)⟩
end Go.Proofs.Ytfaicjlpncidgaa
