/- A part of a day is covered: the program's functions and the reference's. -/
import Derived.Test.YtfaicjlpncidgaaPut5
namespace Go.Proofs.Ytfaicjlpncidgaa
open Go Go.RowKit
set_option linter.unusedVariables false
theorem rd_srcs {α : Type} {enc : α → List Value} {sz B : Nat} {w : World} {A : Option Addr} {L : List α} (he : ∀ c, (enc c).length = sz) (hr : Rd enc sz B w A L) : ∀ ad, A = some ad → ∀ j u, (L.flatMap enc)[j]? = some u → w.cell? (ad.add j) = some u := by
  intro ad had j u hu
  have hL : L ≠ [] := by intro h; subst h; simp at hu
  obtain ⟨b, o, hA, _, hc⟩ := hr.at_ hL
  rw [hA] at had; injection had with had; subst had
  rw [Addr.add_mid]; exact rd_flat he L o hc j u hu
def dutP (day part duty : Int) (c : Shift) : Bool := c.day == day && (c.part == part && c.duty == duty)
def hasD (plan : List Shift) (day part duty : Int) : Bool := plan.any (dutP day part duty)
/- the one of a list that has worked least; the first of those -/
def bestOf (plan : List Shift) : List Int → Int
  | [] => 0
  | b :: r => r.foldl (fun m id => if hoursL plan id < hoursL plan m then id else m) b
theorem best_step {plan : List Shift} {L : List Int} {k : Nat} (h : k < L.length) (h1 : 1 ≤ k) : bestOf plan (L.take (k + 1)) = if hoursL plan L[k] < hoursL plan (bestOf plan (L.take k)) then L[k] else bestOf plan (L.take k) := by
  cases L with
  | nil => simp at h
  | cons b r =>
    obtain ⟨j, rfl⟩ : ∃ j, k = j + 1 := ⟨k - 1, by omega⟩
    simp only [List.take_succ_cons, bestOf, List.getElem_cons_succ]
    rw [take_snocL r j (by simpa using h), List.foldl_append]
    rfl
theorem best_one {plan : List Shift} {L : List Int} (h : 0 < L.length) : bestOf plan (L.take 1) = L[0] := by
  cases L with
  | nil => simp at h
  | cons b r => rfl
theorem best_aux (plan : List Shift) : ∀ (r : List Int) (b : Int), r.foldl (fun m id => if hoursL plan id < hoursL plan m then id else m) b = b ∨ r.foldl (fun m id => if hoursL plan id < hoursL plan m then id else m) b ∈ r
  | [], b => .inl rfl
  | x :: r, b => by
    simp only [List.foldl_cons]
    by_cases hx : hoursL plan x < hoursL plan b
    · rw [if_pos hx]
      rcases best_aux plan r x with h | h
      · right; rw [h]; exact List.mem_cons_self ..
      · right; exact List.mem_cons_of_mem _ h
    · rw [if_neg hx]
      rcases best_aux plan r b with h | h
      · left; exact h
      · right; exact List.mem_cons_of_mem _ h
theorem best_mem {plan : List Shift} {L : List Int} (h : L ≠ []) : bestOf plan L ∈ L := by
  cases L with
  | nil => exact absurd rfl h
  | cons b r =>
    rcases best_aux plan r b with h2 | h2
    · show r.foldl _ b ∈ _; rw [h2]; exact List.mem_cons_self ..
    · exact List.mem_cons_of_mem _ h2
def fillStep (staff : List Worker) (day part duty : Int) (plan : List Shift) : Option (List Shift) :=
  if hasD plan day part duty then some plan else if canL staff plan day part duty = [] then none else some (putL staff plan ⟨day, part, bestOf plan (canL staff plan day part duty), duty⟩)
def fillTo (staff : List Worker) (plan : List Shift) (day part : Int) : Nat → Option (List Shift)
  | 0 => some plan
  | j + 1 => (fillTo staff plan day part j).bind (fillStep staff day part ((j : Int) + 1))
def fillOk (staff : List Worker) (plan : List Shift) (day part : Int) : Bool := planB staff plan && partB day part
def fillB (staff : List Worker) (plan : List Shift) (day part : Int) : Bool := fillOk staff plan day part && (fillTo staff plan day part 2).isSome
def fillV (staff : List Worker) (plan : List Shift) (day part : Int) : List Shift := if fillOk staff plan day part then (fillTo staff plan day part 2).getD [] else []
theorem can_put {staff : List Worker} {plan : List Shift} {day part duty id : Int} (h : id ∈ canL staff plan day part duty) : putB staff plan ⟨day, part, id, duty⟩ = true := by
  simp only [canL, canT, List.mem_map, List.mem_filter] at h
  obtain ⟨k, ⟨_, hk⟩, rfl⟩ := h
  exact hk
theorem put_plan {staff : List Worker} {plan : List Shift} {s : Shift} (h : putB staff plan s = true) : planB staff (putL staff plan s) = true := by
  rw [putL, if_pos h]; exact h
theorem step_plan {staff : List Worker} {day part duty : Int} {P Q : List Shift} (hp : planB staff P = true) (h : fillStep staff day part duty P = some Q) : planB staff Q = true := by
  unfold fillStep at h
  split at h
  · injection h with h; rw [← h]; exact hp
  · split at h
    · cases h
    · rename_i hne
      injection h with h
      rw [← h]
      exact put_plan (can_put (best_mem hne))
theorem to_plan {staff : List Worker} {plan : List Shift} {day part : Int} (hp : planB staff plan = true) : ∀ (j : Nat) (Q : List Shift), fillTo staff plan day part j = some Q → planB staff Q = true
  | 0, Q, h => by injection h with h; rw [← h]; exact hp
  | j + 1, Q, h => by
    unfold fillTo at h
    cases hj : fillTo staff plan day part j with
    | none => rw [hj] at h; cases h
    | some P => rw [hj] at h; exact step_plan (to_plan hp j P hj) h
theorem fillV_len (staff : List Worker) (plan : List Shift) (day part : Int) : (fillV staff plan day part).length ≤ 40 := by
  unfold fillV
  split
  · rename_i h
    simp only [fillOk, Bool.and_eq_true] at h
    cases h2 : fillTo staff plan day part 2 with
    | none => simp
    | some Q => exact planB_len (to_plan h.1 2 Q h2)
  · simp
theorem to_next {staff : List Worker} {plan P : List Shift} {day part : Int} {j : Nat} (h : fillTo staff plan day part j = some P) : fillTo staff plan day part (j + 1) = fillStep staff day part ((j : Int) + 1) P := by
  rw [fillTo, h]; rfl
theorem to_none {staff : List Worker} {plan P : List Shift} {day part : Int} {j : Nat} (h : fillTo staff plan day part j = some P) (hs : fillStep staff day part ((j : Int) + 1) P = none) (hj : j < 2) : fillTo staff plan day part 2 = none := by
  have h1 := (to_next h).trans hs
  rcases Nat.lt_or_ge j 1 with h2 | h2
  · obtain rfl : j = 0 := by omega
    rw [fillTo, h1]; rfl
  · obtain rfl : j = 1 := by omega
    exact h1
theorem step_has {staff : List Worker} {P : List Shift} {day part duty : Int} (h : hasD P day part duty = true) : fillStep staff day part duty P = some P := by rw [fillStep, if_pos h]
theorem step_none {staff : List Worker} {P : List Shift} {day part duty : Int} (h : hasD P day part duty = false) (h2 : canL staff P day part duty = []) : fillStep staff day part duty P = none := by rw [fillStep, if_neg (by rw [h]; decide), if_pos h2]
theorem step_put {staff : List Worker} {P : List Shift} {day part duty : Int} (h : hasD P day part duty = false) (h2 : canL staff P day part duty ≠ []) : fillStep staff day part duty P = some (putL staff P ⟨day, part, bestOf P (canL staff P day part duty), duty⟩) := by rw [fillStep, if_neg (by rw [h]; decide), if_neg h2]
theorem dut_pred (day part duty : Int) (L : List Shift) (w : World) (B1 B2 B3 : Nat) (h1 : w.cell? ⟨B1, 0, none⟩ = some (.int .i64 day)) (h2 : w.cell? ⟨B2, 0, none⟩ = some (.int .i64 part)) (h3 : w.cell? ⟨B3, 0, none⟩ = some (.int .i64 duty)) :
    Shift.Pred 109 #[.pointer (some ⟨B1, 0, none⟩), .pointer (some ⟨B2, 0, none⟩), .pointer (some ⟨B3, 0, none⟩)] (dutP day part duty) L w := by
  refine ⟨entersF Try.func109 (by kernel_rfl) rfl, fun W c _ hb => ?_⟩
  have q1 := below_cell ((Below.refl W.heap.size W).alloc (Nat.le_refl _) (.cells #[.int .i64 c.day, .int .i64 c.part, .int .i64 c.who, .int .i64 c.duty] 66)) (below_cell hb h1)
  have q2 := below_cell ((Below.refl W.heap.size W).alloc (Nat.le_refl _) (.cells #[.int .i64 c.day, .int .i64 c.part, .int .i64 c.who, .int .i64 c.duty] 66)) (below_cell hb h2)
  have q3 := below_cell ((Below.refl W.heap.size W).alloc (Nat.le_refl _) (.cells #[.int .i64 c.day, .int .i64 c.part, .int .i64 c.who, .int .i64 c.duty] 66)) (below_cell hb h3)
  show Calls Try.prog 109 #[.agg #[.int .i64 c.day, .int .i64 c.part, .int .i64 c.who, .int .i64 c.duty], .pointer (some ⟨B1, 0, none⟩), .pointer (some ⟨B2, 0, none⟩), .pointer (some ⟨B3, 0, none⟩)] W _
  cases e1 : (c.day == day) <;> cases e2 : (c.part == part) <;> cases e3 : (c.duty == duty) <;> (
    go_enter Try.func109, Try.ntmps109
    go_wp2_with fail
    go_ret
    exact ⟨ret_bool (by simp only [dutP, e1, e2, e3]; rfl), (Below.refl _ _).alloc (Nat.le_refl _) _⟩)
theorem hasDuty_is {plan : List Shift} {day part duty : Int} {b : Bool} (h : hasD plan day part duty = b) (A : Option Addr) (cap : Nat) (w : World) (hr : Rd Shift.enc 4 w.heap.size w A plan) (hl : plan.length ≤ maxLen) :
    Calls Try.prog 90 #[.slice A plan.length cap, .int .i64 day, .int .i64 part, .int .i64 duty] w fun e w' => e = .returned (.bool b) ∧ Below w.heap.size w w' := by
  have bP : Below (w.alloc (.cells #[.int .i64 day] 3)).heap.size (w.alloc (.cells #[.int .i64 day] 3)) ((w.alloc (.cells #[.int .i64 day] 3)).alloc (.cells #[.int .i64 part] 3)) := (Below.refl _ _).alloc (Nat.le_refl _) _
  have bU : Below ((w.alloc (.cells #[.int .i64 day] 3)).alloc (.cells #[.int .i64 part] 3)).heap.size ((w.alloc (.cells #[.int .i64 day] 3)).alloc (.cells #[.int .i64 part] 3)) (((w.alloc (.cells #[.int .i64 day] 3)).alloc (.cells #[.int .i64 part] 3)).alloc (.cells #[.int .i64 duty] 3)) := (Below.refl _ _).alloc (Nat.le_refl _) _
  have h1 := below_cell bU (below_cell bP (cell_new w #[.int .i64 day] 3 w.heap.size 0 _ rfl rfl))
  have h2 := below_cell bU (cell_new (w.alloc (.cells #[.int .i64 day] 3)) #[.int .i64 part] 3 (w.heap.size + 1) 0 _ (by simp) rfl)
  have h3 := cell_new ((w.alloc (.cells #[.int .i64 day] 3)).alloc (.cells #[.int .i64 part] 3)) #[.int .i64 duty] 3 (w.heap.size + 2) 0 _ (by simp) rfl
  have hb : Below w.heap.size w (((w.alloc (.cells #[.int .i64 day] 3)).alloc (.cells #[.int .i64 part] 3)).alloc (.cells #[.int .i64 duty] 3)) := (((Below.refl _ _).alloc (Nat.le_refl _) _).alloc (by simp) _).alloc (by simp; omega) _
  have HPR := hide (dut_pred day part duty plan _ _ _ _ h1 h2 h3)
  have HB := hide (show plan.any (dutP day part duty) = b from h)
  go_enter Try.func90, Try.ntmps90
  go_wp2_with (go_at_call 73; refine (Shift.ContainsFunc_n _ _ _ plan rfl HB.out _ _ _ (hr.later hb) hl HPR.out).mono ?_; rintro e w1 ⟨rfl, hb1⟩)
  go_ret
  exact ⟨rfl, below_step hb hb1 (Nat.le_refl _)⟩
set_option maxRecDepth 100000 in
set_option maxHeartbeats 2000000 in
theorem l22Has_is {plan : List Shift} {day part duty : Int} {b : Bool} (h : hasD plan day part duty = b) (A : Option Addr) (cap : Nat) (w : World) (hr : Rd Shift.enc 4 w.heap.size w A plan) (hl : plan.length ≤ maxLen) :
    Calls Try.prog 89 #[.slice A plan.length cap, .int .i64 day, .int .i64 part, .int .i64 duty] w fun e w' => e = .returned (.bool b) ∧ w = w' := by
  unfold maxLen at hl
  have HB := hide h; clear h
  go_enter Try.func89, Try.ntmps89
  go_wp2_with fail
  go_loop [9] (fun i => ∃ k : Nat, k ≤ plan.length ∧ i = .int .i64 k ∧ Hid (∀ d ∈ plan.take k, dutP day part duty d = false)) (fun i => plan.length - (intOf i).toNat)
  case atStart => exact ⟨0, Nat.zero_le _, rfl, hide (by simp)⟩
  case round =>
    obtain ⟨k, hk, rfl, hno⟩ := hrel
    by_cases hlt : k < plan.length
    · obtain ⟨b', o', rfl, _, hc⟩ := Shift.rd_at hr (by intro h; subst h; simp at hlt)
      have hg := List.getElem?_eq_getElem hlt
      obtain ⟨y0, y1, y2, y3⟩ := hc k _ hg
      have HM := hide (List.getElem_mem hlt)
      have HT := hide (take_snocL plan k hlt)
      have hki : (k : Int) < (plan.length : Int) := by omega
      generalize plan[k] = c at *
      clear hc hg
      cases e1 : (c.day == day) <;> cases e2 : (c.part == part) <;> cases e3 : (c.duty == duty)
      all_goals
        have HD := hide (show dutP day part duty c = _ by simp only [dutP, e1, e2, e3]; rfl)
        go_wp2_with fail
        first
          | (go_ret; exact ⟨ret_bool (by rw [← HB.out]; exact (List.any_eq_true.2 ⟨c, HM.out, HD.out⟩).symm), rfl⟩)
          | (go_round
             case rel => exact ⟨k + 1, by omega, by go_num, hide (by
               rw [HT.out]; intro d' hd'
               rcases List.mem_append.1 hd' with h | h
               · exact hno.out d' h
               · simp at h; subst h; exact HD.out)⟩
             case measure => simp [intOf] <;> omega)
    · have hkz : k = plan.length := by omega
      go_wp2_with fail
      go_ret
      refine ⟨ret_bool ?_, rfl⟩
      rw [← HB.out]
      refine (List.any_eq_false.2 fun d hd => ?_).symm
      have := hno.out d (by rw [hkz, List.take_length]; exact hd)
      rw [this]; decide
set_option maxRecDepth 100000 in
set_option maxHeartbeats 8000000 in
theorem FillPart_spec (staff : List Worker) (plan : List Shift) (day part : Int) (A0 A1 : Option Addr) (c0 c1 : Nat) (w : World) (r0 : Rd Worker.enc 4 w.heap.size w A0 staff) (r1 : Rd Shift.enc 4 w.heap.size w A1 plan) (ok0 : ∀ c ∈ staff, c.Ok) (l0 : staff.length ≤ maxLen) (l1 : plan.length ≤ maxLen) (hnil : A1 = none → c1 = 0) (hcap : plan.length ≤ c1) :
    Calls Try.prog 53 #[.slice A0 staff.length c0, .slice A1 plan.length c1, .int .i64 day, .int .i64 part] w (Gives (fillV staff plan day part).length (fun v => .tuple #[v, .bool (fillB staff plan day part)]) (fun w' v => Own Shift.enc 4 66 w.heap.size w' v (fillV staff plan day part)) w) := by
  cases h0 : planB staff plan
  · have HO := hide (show fillOk staff plan day part = false by simp [fillOk, h0])
    have HB := hide (show fillB staff plan day part = false by rw [fillB, HO.out]; rfl)
    have HL := hide (show fillV staff plan day part = [] by rw [fillV, if_neg (by rw [HO.out]; decide)])
    have HP := hide h0
    clear h0
    go_enter Try.func53, Try.ntmps53
    go_wp2_with (first | (go_at_call 68; refine (l22Plan_is HP.out _ _ _ _ _ r0 r1 ok0 l0 l1).mono ?_; rintro e w1 ⟨rfl, hb1⟩) | (go_at_call 93; refine (l22Part_is (by assumption) _).mono ?_; rintro e w2 ⟨rfl, rfl⟩))
    go_ret2
    rw [HL.out, HB.out]
    exact ⟨_, _, rfl, own_empty hb1.size, below_step hb1 ((Below.refl _ _).alloc (Nat.le_refl _) _) (Nat.le_refl _)⟩
  cases h1 : partB day part
  · have HO := hide (show fillOk staff plan day part = false by simp [fillOk, h0, h1])
    have HB := hide (show fillB staff plan day part = false by rw [fillB, HO.out]; rfl)
    have HL := hide (show fillV staff plan day part = [] by rw [fillV, if_neg (by rw [HO.out]; decide)])
    have HP := hide h0
    clear h0
    go_enter Try.func53, Try.ntmps53
    go_wp2_with (first | (go_at_call 68; refine (l22Plan_is HP.out _ _ _ _ _ r0 r1 ok0 l0 l1).mono ?_; rintro e w1 ⟨rfl, hb1⟩) | (go_at_call 93; refine (l22Part_is (by assumption) _).mono ?_; rintro e w2 ⟨rfl, rfl⟩))
    go_ret2
    rw [HL.out, HB.out]
    exact ⟨_, _, rfl, own_empty hb1.size, below_step hb1 ((Below.refl _ _).alloc (Nat.le_refl _) _) (Nat.le_refl _)⟩
  have HO := hide (show fillOk staff plan day part = true by simp [fillOk, h0, h1])
  have hlen := planB_len h0
  have hs8 := planB_staff h0
  have HP := hide h0
  have HTO := hide (fun (j : Nat) (Q : List Shift) (h : fillTo staff plan day part j = some Q) => to_plan h0 j Q h)
  clear h0
  go_enter Try.func53, Try.ntmps53
  go_wp2_with (first | (go_at_call 68; refine (l22Plan_is HP.out _ _ _ _ _ r0 r1 ok0 l0 l1).mono ?_; rintro e w1 ⟨rfl, hb1⟩) | (go_at_call 93; refine (l22Part_is (by assumption) _).mono ?_; rintro e w2 ⟨rfl, rfl⟩) | (at_builtin; refine wpList_app rfl (.tmp 26) (.tmp 27) 38 66 rfl Try.underlying38 Shift.infoE rfl (by omega) (by omega) Shift.enc_len Shift.enc_one w.heap.size _ 0 [] plan A1 plan.length c1 0 plan.length rfl (by omega) rfl rfl rfl (rd_srcs Shift.enc_len (r1.later (hb1.alloc hb1.size (.cells #[] 66)))) (fun h => ⟨rd_none r1 h, hnil h⟩) (own_empty hb1.size) (hb1.alloc hb1.size (.cells #[] 66)).size (by omega) ?_; intro A2 c2 w2 ho2 hb2 hg2))
  have BB : Below w.heap.size w w2 := (hb1.alloc hb1.size _).trans hb2
  rw [List.nil_append] at ho2
  have ho2 : Own Shift.enc 4 66 w.heap.size w2 (.slice A2 plan.length c2) plan := by simpa using ho2
  go_loopw [11, 10] (fun d out wr => ∃ (j : Nat) (P : List Shift) (A' : Option Addr) (cap' : Nat), j ≤ 2 ∧ d = .int .i64 ((j : Int) + 1) ∧ out = .slice A' P.length cap' ∧ Hid (fillTo staff plan day part j = some P) ∧ Own Shift.enc 4 66 w.heap.size wr (.slice A' P.length cap') P ∧ Below w2.heap.size w2 wr) (fun d _ _ => 3 - (intOf d).toNat)
  case atStart => exact ⟨0, plan, A2, c2, by omega, rfl, rfl, hide rfl, ho2, Below.refl _ _⟩
  case round =>
    clear ho2
    obtain ⟨j, P, A', cap', hj, rfl, rfl, HF, hown, hbel⟩ := hrel
    have BW := below_step BB hbel (Nat.le_refl _)
    have hpp := HTO.out j P HF.out
    have hp40 := planB_len hpp
    have HPP := hide hpp; clear hpp
    by_cases hlt : j < 2
    · have hd1 : (j : Int) + 1 ≤ 2 := by omega
      obtain ⟨dv, hdv⟩ : ∃ dv : Int, dv = (j : Int) + 1 := ⟨_, rfl⟩
      have hdn : 1 ≤ dv ∧ dv ≤ 2 := by omega
      obtain ⟨hdn0, hdn1⟩ := hdn
      have HDV := hide hdv.symm
      have RP := Own.rd_of Shift.enc_len hown
      have HNX := hide ((to_next HF.out).trans (congrArg (fun x => fillStep staff day part x P) hdv.symm))
      have HNN := hide (fun (h : fillStep staff day part dv P = none) => to_none HF.out (by rw [← hdv]; exact h) hlt)
      rw [← hdv]
      clear hdv
      cases hh : hasD P day part dv
      · have HH := hide hh; clear hh
        go_wp2_with fail
        refine (l22Has_is HH.out _ _ _ RP (by unfold maxLen; omega)).mono ?_
        rintro e w4 ⟨rfl, rfl⟩
        have RPc := RP; have BC := BW; have hbc := hbel; have hownc := hown
        go_wp2_with fail
        refine (l22Can_any staff P day part dv HPP.out _ _ _ _ _ (r0.later BC) RPc ok0 (own_nilcap hownc) (own_cap hownc)).mono ?_
        rintro e w5 ⟨Ac, cc, rfl, hoc, hb5⟩
        have BD := below_step BC hb5 (Nat.le_refl _); have hbd := below_step hbc hb5 (Nat.le_refl _); have hownd := Own.below hownc hb5; have RPd := RPc.later hb5
        have RC := Own.rd_of encI_len hoc
        have hcl : (canL staff P day part dv).length ≤ 8 := Nat.le_trans (can_len ..) hs8
        have HN1 := hide (fun (h : canL staff P day part dv = []) => step_none HH.out h)
        have HN2 := hide (fun (h : canL staff P day part dv ≠ []) => step_put HH.out h)
        have HN3 := hide (fun (h : canL staff P day part dv ≠ []) => can_put (best_mem (plan := P) h))
        clear hoc
        generalize canL staff P day part dv = C at *
        by_cases hC : C = []
        · have hS := HNN.out (HN1.out hC)
          subst hC
          have HFB := hide (show fillB staff plan day part = false by rw [fillB, hS]; simp)
          have HFV := hide (show fillV staff plan day part = [] by rw [fillV, hS, if_pos HO.out]; rfl)
          clear hS
          go_wp2_with fail
          go_ret2
          rw [HFB.out, HFV.out]
          exact ⟨_, _, rfl, own_empty BD.size, below_step BD ((Below.refl _ _).alloc (Nat.le_refl _) _) (Nat.le_refl _)⟩
        · have hC0 := List.length_pos_iff.2 hC
          have hC1 : ((C.length : Int) == 0) = false := by simp; omega
          obtain ⟨bC, oC, rfl, _, hcC⟩ := rd_int RC hC
          have z0 := hcC 0 _ (List.getElem?_eq_getElem hC0)
          rw [Nat.add_zero] at z0
          have HB1 := hide (best_one (plan := P) hC0)
          have HCC := hide hcC; clear hcC
          generalize C[0] = cz at *
          have hCi : (0 : Int) < (C.length : Int) := by omega
          go_wp2_with fail
          go_loopw [14, 13] (fun i m wr => ∃ (k : Nat) (b : Int), 1 ≤ k ∧ k ≤ C.length ∧ i = .int .i64 k ∧ m = .int .i64 b ∧ Hid (b = bestOf P (C.take k)) ∧ Below w5.heap.size w5 wr) (fun i _ _ => C.length - (intOf i).toNat)
          case atStart => exact ⟨1, cz, by omega, by omega, rfl, rfl, hide HB1.out.symm, Below.refl _ _⟩
          case round =>
            obtain ⟨k, b, hk1, hk, rfl, rfl, HB, hbk⟩ := hrel
            have BE := below_step BD hbk (Nat.le_refl _); have hbe := below_step hbd hbk (Nat.le_refl _); have hownE := Own.below hownd hbk; have RPe := RPd.later hbk
            by_cases hlk : k < C.length
            · have yk := below_cell hbk (HCC.out k _ (List.getElem?_eq_getElem hlk))
              have hki : (k : Int) < (C.length : Int) := by omega
              have HST := hide (best_step (plan := P) hlk hk1)
              rw [← HB.out] at HST
              generalize C[k] = ck at *
              have HYP := True.intro
              clear RP RPc RPd
              by_cases hlo : hoursL P ck < hoursL P b
              · go_wp2_with (first | (go_at_call 80; refine (l22Worked_any P _ _ _ _ (by assumption) (by omega)).mono ?_; rintro e w6 ⟨rfl, rfl⟩))
                go_roundw
                case rel => exact ⟨k + 1, ck, by omega, by omega, by go_num, rfl, hide (by rw [HST.out, if_pos hlo]), hbk⟩
                case measure => simp [intOf] <;> omega
              · go_wp2_with (first | (go_at_call 80; refine (l22Worked_any P _ _ _ _ (by assumption) (by omega)).mono ?_; rintro e w6 ⟨rfl, rfl⟩))
                go_roundw
                case rel => exact ⟨k + 1, b, by omega, by omega, by go_num, rfl, hide (by rw [HST.out, if_neg (show ¬ hoursL P ck < hoursL P b by omega)]), hbk⟩
                case measure => simp [intOf] <;> omega
            · obtain rfl : k = C.length := by omega
              have hbb : b = bestOf P C := by rw [HB.out]; rw [List.take_length]
              have hnk : ¬ (C.length : Int) < (C.length : Int) := by omega
              have HPB := hide (hbb ▸ HN3.out hC)
              have HNQ := hide (hbb ▸ HNX.out.trans (HN2.out hC))
              clear hbb HB HN1 HN2 HN3 HB1 HCC
              have hq := (putL_same HPP.out HPB.out)
              have hql := insT_len P ⟨day, part, b, dv⟩
              have HQQ := hide hq
              rw [hq] at hql; clear hq
              go_wp2_with fail
              refine (l22Put_is (s := ⟨day, part, b, dv⟩) HQQ.out _ _ _ RPe (by omega) (own_nilcap hownE) (own_cap hownE)).mono ?_
              rintro e w7 ⟨Ap, cp, rfl, hop, hb7⟩
              have hbf := below_step hbe hb7 (Nat.le_refl _)
              rw [← hql] at hop
              generalize putL staff P ⟨day, part, b, dv⟩ = Q at *
              go_wp2_with fail
              go_roundw
              case rel => exact ⟨j + 1, Q, Ap, cp, by omega, by rw [← HDV.out]; go_num, sl_eq hql.symm, hide HNQ.out, Own.mono_ hop BE.size, hbf⟩
              case measure => simp [intOf] <;> omega
      · have HH := hide hh; clear hh
        have HNQ := hide (HNX.out.trans (step_has HH.out))
        go_wp2_with fail
        refine (l22Has_is HH.out _ _ _ RP (by unfold maxLen; omega)).mono ?_
        rintro e w4 ⟨rfl, rfl⟩
        go_wp2_with fail
        go_roundw
        case rel => exact ⟨j + 1, P, A', cap', by omega, by rw [← HDV.out]; go_num, rfl, hide HNQ.out, hown, hbel⟩
        case measure => simp [intOf] <;> omega
    · obtain rfl : j = 2 := by omega
      have HFB := hide (show fillB staff plan day part = true by rw [fillB, HF.out, HO.out]; rfl)
      have HFV := hide (show fillV staff plan day part = P by rw [fillV, HF.out, if_pos HO.out]; rfl)
      clear HF HPP HTO
      go_wp2_with fail
      go_ret2
      rw [HFB.out, HFV.out]
      exact ⟨_, _, rfl, hown, BW⟩
set_option maxRecDepth 100000 in
set_option maxHeartbeats 8000000 in
theorem FillPart_any (staff : List Worker) (plan : List Shift) (day part : Int) (A0 A1 : Option Addr) (c0 c1 : Nat) (w : World) (r0 : Rd Worker.enc 4 w.heap.size w A0 staff) (r1 : Rd Shift.enc 4 w.heap.size w A1 plan) (ok0 : ∀ c ∈ staff, c.Ok) (l0 : staff.length ≤ maxLen) (l1 : plan.length ≤ maxLen) (hcap : plan.length ≤ c1) :
    Calls Try.prog 54 #[.slice A0 staff.length c0, .slice A1 plan.length c1, .int .i64 day, .int .i64 part] w (Gives (fillV staff plan day part).length (fun v => .tuple #[v, .bool (fillB staff plan day part)]) (fun w' v => Own Shift.enc 4 66 w.heap.size w' v (fillV staff plan day part)) w) := by
  cases h0 : planB staff plan
  · have HO := hide (show fillOk staff plan day part = false by simp [fillOk, h0])
    have HB := hide (show fillB staff plan day part = false by rw [fillB, HO.out]; rfl)
    have HL := hide (show fillV staff plan day part = [] by rw [fillV, if_neg (by rw [HO.out]; decide)])
    have HP := hide h0
    clear h0
    go_enter Try.func54, Try.ntmps54
    go_wp2_with (first | (go_at_call 28; refine (IsPlan_is HP.out _ _ _ _ _ r0 r1 ok0 l0 l1 hcap).mono ?_; rintro e w1 ⟨rfl, hb1⟩) | (go_at_call 70; refine (isPart_is (by assumption) _).mono ?_; rintro e w2 ⟨rfl, rfl⟩))
    go_ret2
    rw [HL.out, HB.out]
    exact ⟨none, 0, rfl, own_nil _ _ _, hb1⟩
  cases h1 : partB day part
  · have HO := hide (show fillOk staff plan day part = false by simp [fillOk, h0, h1])
    have HB := hide (show fillB staff plan day part = false by rw [fillB, HO.out]; rfl)
    have HL := hide (show fillV staff plan day part = [] by rw [fillV, if_neg (by rw [HO.out]; decide)])
    have HP := hide h0
    clear h0
    go_enter Try.func54, Try.ntmps54
    go_wp2_with (first | (go_at_call 28; refine (IsPlan_is HP.out _ _ _ _ _ r0 r1 ok0 l0 l1 hcap).mono ?_; rintro e w1 ⟨rfl, hb1⟩) | (go_at_call 70; refine (isPart_is (by assumption) _).mono ?_; rintro e w2 ⟨rfl, rfl⟩))
    go_ret2
    rw [HL.out, HB.out]
    exact ⟨none, 0, rfl, own_nil _ _ _, hb1⟩
  have HO := hide (show fillOk staff plan day part = true by simp [fillOk, h0, h1])
  have hlen := planB_len h0
  have hs8 := planB_staff h0
  have HP := hide h0
  have HTO := hide (fun (j : Nat) (Q : List Shift) (h : fillTo staff plan day part j = some Q) => to_plan h0 j Q h)
  clear h0
  go_enter Try.func54, Try.ntmps54
  go_wp2_with (first | (go_at_call 28; refine (IsPlan_is HP.out _ _ _ _ _ r0 r1 ok0 l0 l1 hcap).mono ?_; rintro e w1 ⟨rfl, hb1⟩) | (go_at_call 70; refine (isPart_is (by assumption) _).mono ?_; rintro e w2 ⟨rfl, rfl⟩))
  refine (Shift.Clone_any plan A1 c1 _ (r1.later hb1) (by omega)).mono ?_
  rintro e w2 ⟨A2, c2, rfl, ho2, hb2⟩
  have BB := below_step hb1 hb2 (Nat.le_refl _)
  have ho2 := Own.mono_ ho2 hb1.size
  go_wp2_with fail
  have hbl : Below w2.heap.size w2 (w2.alloc (.cells #[.int .i64 1, .int .i64 2] 3)) := (Below.refl _ _).alloc (Nat.le_refl _) _
  have q0 : (w2.alloc (.cells #[.int .i64 1, .int .i64 2] 3)).cell? ⟨w2.heap.size, 0, none⟩ = some (.int .i64 1) := by simp
  have q1 : (w2.alloc (.cells #[.int .i64 1, .int .i64 2] 3)).cell? ⟨w2.heap.size, 1, none⟩ = some (.int .i64 2) := by simp
  have BB := below_step BB hbl (Nat.le_refl _)
  have ho2 := Own.below ho2 hbl
  generalize (w2.alloc (.cells #[.int .i64 1, .int .i64 2] 3)) = w3 at *
  generalize w2.heap.size = pl at *
  go_loopw [31, 10] (fun d out wr => ∃ (j : Nat) (P : List Shift) (A' : Option Addr) (cap' : Nat), j ≤ 2 ∧ d = .int .i64 (j : Int) ∧ out = .slice A' P.length cap' ∧ Hid (fillTo staff plan day part j = some P) ∧ Own Shift.enc 4 66 w.heap.size wr (.slice A' P.length cap') P ∧ Below w3.heap.size w3 wr) (fun d _ _ => 3 - (intOf d).toNat)
  case atStart => exact ⟨0, plan, A2, c2, by omega, rfl, rfl, hide rfl, ho2, Below.refl _ _⟩
  case round =>
    clear ho2
    obtain ⟨j, P, A', cap', hj, rfl, rfl, HF, hown, hbel⟩ := hrel
    have BW := below_step BB hbel (Nat.le_refl _)
    have hpp := HTO.out j P HF.out
    have hp40 := planB_len hpp
    have HPP := hide hpp; clear hpp
    by_cases hlt : j < 2
    · obtain ⟨dv, hdv⟩ : ∃ dv : Int, dv = (j : Int) + 1 := ⟨_, rfl⟩
      have hjl : (j : Int) < 2 := by omega
      have qj : w3.cell? ⟨pl, j, none⟩ = some (.int .i64 dv) := by
        rcases (by omega : j = 0 ∨ j = 1) with h | h
        · subst h; subst hdv; exact q0
        · subst h; subst hdv; exact q1
      replace qj := below_cell hbel qj
      have HDV := hide hdv.symm
      have RP := Own.rd_of Shift.enc_len hown
      have HNX := hide ((to_next HF.out).trans (congrArg (fun x => fillStep staff day part x P) hdv.symm))
      have HNN := hide (fun (h : fillStep staff day part dv P = none) => to_none HF.out (by rw [← hdv]; exact h) hlt)
      clear hdv
      cases hh : hasD P day part dv
      · have HH := hide hh; clear hh
        go_wp2_with fail
        refine (hasDuty_is HH.out _ _ _ RP (by unfold maxLen; omega)).mono ?_
        rintro e w4 ⟨rfl, hb4⟩
        have RPc := RP.later hb4; have BC := below_step BW hb4 (Nat.le_refl _); have hbc := below_step hbel hb4 (Nat.le_refl _); have hownc := Own.below hown hb4
        go_wp2_with fail
        refine (whoCan_any staff P day part dv HPP.out _ _ _ _ _ (r0.later BC) RPc ok0).mono ?_
        rintro e w5 ⟨Ac, cc, rfl, hoc, hb5⟩
        have BD := below_step BC hb5 (Nat.le_refl _); have hbd := below_step hbc hb5 (Nat.le_refl _); have hownd := Own.below hownc hb5; have RPd := RPc.later hb5
        have RC := Own.rd_of encI_len hoc
        have hcl : (canL staff P day part dv).length ≤ 8 := Nat.le_trans (can_len ..) hs8
        have HN1 := hide (fun (h : canL staff P day part dv = []) => step_none HH.out h)
        have HN2 := hide (fun (h : canL staff P day part dv ≠ []) => step_put HH.out h)
        have HN3 := hide (fun (h : canL staff P day part dv ≠ []) => can_put (best_mem (plan := P) h))
        clear hoc
        generalize canL staff P day part dv = C at *
        by_cases hC : C = []
        · have hS := HNN.out (HN1.out hC)
          subst hC
          have HFB := hide (show fillB staff plan day part = false by rw [fillB, hS]; simp)
          have HFV := hide (show fillV staff plan day part = [] by rw [fillV, hS, if_pos HO.out]; rfl)
          clear hS
          go_wp2_with fail
          go_ret2
          rw [HFB.out, HFV.out]
          exact ⟨none, 0, rfl, own_nil _ _ _, BD⟩
        · have hC0 := List.length_pos_iff.2 hC
          have hC1 : ((C.length : Int) == 0) = false := by simp; omega
          obtain ⟨bC, oC, rfl, _, hcC⟩ := rd_int RC hC
          have z0 := hcC 0 _ (List.getElem?_eq_getElem hC0)
          rw [Nat.add_zero] at z0
          have HB1 := hide (best_one (plan := P) hC0)
          have HCC := hide hcC; clear hcC
          generalize C[0] = cz at *
          have hCi : (0 : Int) < (C.length : Int) := by omega
          go_wp2_with fail
          go_loopw [54, 14] (fun i m wr => ∃ (k : Nat) (b : Int), k ≤ C.length ∧ i = .int .i64 k ∧ m = .int .i64 b ∧ Hid (b = bestOf P (C.take (max k 1))) ∧ Below w5.heap.size w5 wr) (fun i _ _ => C.length - (intOf i).toNat)
          case atStart => exact ⟨0, cz, by omega, rfl, rfl, hide HB1.out.symm, Below.refl _ _⟩
          case round =>
            obtain ⟨k, b, hk, rfl, rfl, HB, hbk⟩ := hrel
            have BE := below_step BD hbk (Nat.le_refl _); have hbe := below_step hbd hbk (Nat.le_refl _); have hownE := Own.below hownd hbk; have RPe := RPd.later hbk
            by_cases hlk : k < C.length
            · have yk := below_cell hbk (HCC.out k _ (List.getElem?_eq_getElem hlk))
              have hki : (k : Int) < (C.length : Int) := by omega
              have hst : bestOf P (C.take (max (k + 1) 1)) = if hoursL P C[k] < hoursL P b then C[k] else b := by
                rw [HB.out]
                rcases Nat.eq_zero_or_pos k with h | h
                · subst h
                  have e : max 0 1 = 1 := rfl
                  have e2 : max (0 + 1) 1 = 1 := rfl
                  rw [e, e2, best_one hC0]; simp
                · rw [show max (k + 1) 1 = k + 1 by omega, show max k 1 = k by omega]; exact best_step hlk h
              have HST := hide hst; clear hst
              generalize C[k] = ck at *
              have HYP := True.intro
              clear RP RPc RPd
              by_cases hlo : hoursL P ck < hoursL P b
              · go_wp2_with (first | (go_at_call 77; refine (hoursOf_any P _ _ _ _ (by assumption) (by omega)).mono ?_; rintro e w6 ⟨rfl, hb6⟩; replace hbk := below_step hbk hb6 (Nat.le_refl _); replace yk := below_cell hb6 yk; replace RPe := RPe.later hb6; clear hb6))
                go_roundw
                case rel => exact ⟨k + 1, ck, by omega, by go_num, rfl, hide (by rw [HST.out, if_pos hlo]), hbk⟩
                case measure => simp [intOf] <;> omega
              · go_wp2_with (first | (go_at_call 77; refine (hoursOf_any P _ _ _ _ (by assumption) (by omega)).mono ?_; rintro e w6 ⟨rfl, hb6⟩; replace hbk := below_step hbk hb6 (Nat.le_refl _); replace yk := below_cell hb6 yk; replace RPe := RPe.later hb6; clear hb6))
                go_roundw
                case rel => exact ⟨k + 1, b, by omega, by go_num, rfl, hide (by rw [HST.out, if_neg (show ¬ hoursL P ck < hoursL P b by omega)]), hbk⟩
                case measure => simp [intOf] <;> omega
            · obtain rfl : k = C.length := by omega
              have hbb : b = bestOf P C := by rw [HB.out]; rw [show max C.length 1 = C.length by omega, List.take_length]
              have hnk : ¬ (C.length : Int) < (C.length : Int) := by omega
              have HPB := hide (hbb ▸ HN3.out hC)
              have HNQ := hide (hbb ▸ HNX.out.trans (HN2.out hC))
              clear hbb HB HN1 HN2 HN3 HB1 HCC
              go_wp2_with fail
              refine (putShift_is (s := ⟨day, part, b, dv⟩) HPP.out HPB.out rfl _ _ _ _ _ (r0.later BE) RPe ok0 l0).mono ?_
              rintro e w7 ⟨Ap, cp, rfl, hop, hb7⟩
              have hbf := below_step hbe hb7 (Nat.le_refl _)
              generalize putL staff P ⟨day, part, b, dv⟩ = Q at *
              go_wp2_with fail
              go_roundw
              case rel => exact ⟨j + 1, Q, Ap, cp, by omega, by go_num, rfl, hide HNQ.out, Own.mono_ hop BE.size, hbf⟩
              case measure => simp [intOf] <;> omega
      · have HH := hide hh; clear hh
        have HNQ := hide (HNX.out.trans (step_has HH.out))
        go_wp2_with fail
        refine (hasDuty_is HH.out _ _ _ RP (by unfold maxLen; omega)).mono ?_
        rintro e w4 ⟨rfl, hb4⟩
        go_wp2_with fail
        go_roundw
        case rel => exact ⟨j + 1, P, A', cap', by omega, by go_num, rfl, hide HNQ.out, Own.below hown hb4, below_step hbel hb4 (Nat.le_refl _)⟩
        case measure => simp [intOf] <;> omega
    · obtain rfl : j = 2 := by omega
      have HFB := hide (show fillB staff plan day part = true by rw [fillB, HF.out, HO.out]; rfl)
      have HFV := hide (show fillV staff plan day part = P by rw [fillV, HF.out, if_pos HO.out]; rfl)
      clear HF HPP HTO
      go_wp2_with fail
      go_ret2
      rw [HFB.out, HFV.out]
      exact ⟨_, _, rfl, hown, BW⟩
end Go.Proofs.Ytfaicjlpncidgaa
