/- The plain laws of staff and plans: a plan without some shifts is a plan, hours are counted by eights, every worker has a duty. And equal rows of shifts, sums, as the law asks them. -/
import Derived.Test.YtfaicjlpncidgaaSick
import Derived.Test.YtfaicjlpncidgaaDuty
import Derived.Test.YtfaicjlpncidgaaPut
import Derived.Test.YtfaicjlpncidgaaTools
namespace Go.Proofs.Ytfaicjlpncidgaa
open Go Go.RowKit
set_option linter.unusedVariables false
def pairS (d c : Shift) : Prop := ltS d c = true ∧ adjP c.who (3 * c.day + c.part) d = false
theorem plan_pw {staff : List Worker} {plan : List Shift} (h : planB staff plan = true) : (∀ c ∈ plan, oneS staff c = true) ∧ plan.Pairwise pairS := by
  refine ⟨fun c hc => ?_, List.pairwise_iff_getElem.2 fun i j hi hj hij => ⟨?_, ?_⟩⟩
  · obtain ⟨j, hj, rfl⟩ := List.mem_iff_getElem.1 hc
    exact plan_one h (List.getElem?_eq_getElem hj)
  · have := plan_sorted h j i _ _ hij (List.getElem?_eq_getElem hi) (List.getElem?_eq_getElem hj)
    simpa [ltS] using this
  · have h1 := plan_rise h j hj
    simp only [planAt, Bool.and_eq_true, List.getElem?_eq_getElem hj] at h1
    have h2 := h1.2
    simp only [Bool.not_eq_true', List.any_eq_false] at h2
    have := h2 plan[i] (List.mem_take_iff_getElem.2 ⟨i, by omega, rfl⟩)
    simpa using this
theorem pw_plan {staff : List Worker} {plan : List Shift} (hs : staffB staff = true) (hl : plan.length ≤ 40) (h1 : ∀ c ∈ plan, oneS staff c = true) (h2 : plan.Pairwise pairS) (h3 : staff.any (overP plan) = false) : planB staff plan = true := by
  have hpw := List.pairwise_iff_getElem.1 h2
  simp only [planB, hs, h3, Bool.true_and, Bool.not_false, Bool.and_true, Bool.and_eq_true, decide_eq_true_eq]
  refine ⟨hl, allAt_yes (Nat.le_refl _) fun j hj => ?_⟩
  simp only [planAt, riseAt, List.getElem?_eq_getElem hj, Bool.and_eq_true]
  refine ⟨⟨h1 _ (List.getElem_mem hj), ?_⟩, ?_⟩
  · rcases Nat.eq_zero_or_pos j with h0 | h0
    · simp [h0]
    · have hj1 : j - 1 < plan.length := by omega
      rw [List.getElem?_eq_getElem hj1]
      simp [(hpw (j - 1) j hj1 hj (by omega)).1]
  · simp only [Bool.not_eq_true', List.any_eq_false]
    intro x hx
    obtain ⟨i, hi, rfl⟩ := List.mem_take_iff_getElem.1 hx
    have := (hpw i j (by omega) hj (by omega)).2
    simpa using this
theorem hours_foldl (id : Int) : ∀ (L : List Shift) (n : Int), L.foldl (fun n c => if c.who = id then n + 8 else n) n = n + L.foldl (fun n c => if c.who = id then n + 8 else n) 0
  | [], n => by simp
  | c :: r, n => by
    simp only [List.foldl_cons]
    rw [hours_foldl id r (if c.who = id then n + 8 else n), hours_foldl id r (if c.who = id then 0 + 8 else 0)]
    split <;> omega
theorem hours_cons (c : Shift) (L : List Shift) (id : Int) : hoursL (c :: L) id = (if c.who = id then 8 else 0) + hoursL L id := by
  unfold hoursL
  rw [List.foldl_cons, hours_foldl]
  split <;> simp
theorem hours_pos (id : Int) : ∀ L : List Shift, 0 ≤ hoursL L id ∧ hoursL L id ≤ 8 * L.length
  | [] => by simp [hoursL]
  | c :: r => by
    have := hours_pos id r
    rw [hours_cons]
    simp only [List.length_cons]
    split <;> omega
theorem hours_sub (id : Int) {L P : List Shift} (h : List.Sublist L P) : hoursL L id ≤ hoursL P id := by
  induction h with
  | slnil => exact Int.le_refl _
  | cons c _ ih => rw [hours_cons]; split <;> omega
  | cons_cons c _ ih => rw [hours_cons, hours_cons]; omega
theorem plan_sub {staff : List Worker} {L P : List Shift} (h : planB staff P = true) (hs : List.Sublist L P) : planB staff L = true := by
  obtain ⟨h1, h2⟩ := plan_pw h
  have hlen := planB_len h
  have hst : staffB staff = true := by
    cases hh : staffB staff
    · simp [planB, hh] at h
    · rfl
  have hov : staff.any (overP P) = false := by
    simp only [planB, Bool.and_eq_true, Bool.not_eq_true'] at h
    exact h.2.2.2
  refine pw_plan hst (Nat.le_trans hs.length_le hlen) (fun c hc => h1 c (hs.subset hc)) (h2.sublist hs) ?_
  rw [List.any_eq_false] at hov ⊢
  intro k hk
  have h3 := hov k hk
  have h4 := hours_sub k.id hs
  simp only [overP, decide_eq_true_eq] at h3 ⊢
  omega
theorem sick_hours (id from_ : Int) : ∀ P : List Shift, hoursL P id - hoursL (P.filter fun s => !sickP id from_ s) id = 8 * ((P.length : Int) - (P.filter fun s => !sickP id from_ s).length)
  | [] => by simp
  | c :: r => by
    have ih := sick_hours id from_ r
    rw [List.filter_cons]
    cases hc : sickP id from_ c
    · simp only [Bool.not_false, if_true, List.length_cons]
      rw [hours_cons, hours_cons]
      have e : ((r.length + 1 : Nat) : Int) - (((r.filter fun s => !sickP id from_ s).length + 1 : Nat) : Int) = (r.length : Int) - (r.filter fun s => !sickP id from_ s).length := by omega
      rw [e]; omega
    · have hw : c.who = id := by
        simp only [sickP, Bool.and_eq_true, beq_iff_eq] at hc; exact hc.1
      simp only [Bool.not_true, Bool.false_eq_true, if_false, List.length_cons]
      rw [hours_cons, if_pos hw]
      have e : ((r.length + 1 : Nat) : Int) = (r.length : Int) + 1 := by omega
      rw [e]; omega
theorem hoursR_yes {staff : List Worker} {plan : List Shift} {id : Int} (h1 : staff.any (isId id) = true) (h2 : planB staff plan = true) : (hoursR staff plan id).1 = hoursL plan id ∧ (hoursR staff plan id).2.2 = true := by
  unfold hoursR
  cases hf : staff.find? (isId id) with
  | none =>
    rw [List.find?_eq_none] at hf
    obtain ⟨x, hx, hi⟩ := List.any_eq_true.1 h1
    exact absurd hi (hf x hx)
  | some k => simp [h2]
theorem sick_facts {staff : List Worker} {plan : List Shift} {id from_ : Int} (h : sickB staff plan id from_ = true) :
    (hoursR staff plan id).2.2 = true ∧ (hoursR staff (sickL staff plan id from_) id).2.2 = true ∧ (hoursR staff plan id).1 - (hoursR staff (sickL staff plan id from_) id).1 = 8 * sickN staff plan id from_ ∧ (0 ≤ (hoursR staff plan id).1 ∧ (hoursR staff plan id).1 ≤ 320) ∧ (0 ≤ (hoursR staff (sickL staff plan id from_) id).1 ∧ (hoursR staff (sickL staff plan id from_) id).1 ≤ 320) ∧ planB staff (sickL staff plan id from_) = true ∧ ((sickL staff plan id from_).length : Int) + sickN staff plan id from_ = plan.length := by
  have h0 := h
  simp only [sickB, Bool.and_eq_true] at h0
  have hL : sickL staff plan id from_ = plan.filter fun s => !sickP id from_ s := by rw [sickL, if_pos h]
  have hN : sickN staff plan id from_ = (plan.length : Int) - (sickL staff plan id from_).length := by rw [sickN, if_pos h]
  have hsub : List.Sublist (plan.filter fun s => !sickP id from_ s) plan := List.filter_sublist
  have hp2 := plan_sub h0.1 hsub
  rw [← hL] at hp2
  obtain ⟨a1, a2⟩ := hoursR_yes h0.2.1 h0.1
  obtain ⟨b1, b2⟩ := hoursR_yes h0.2.1 hp2
  have hs := sick_hours id from_ plan
  rw [← hL] at hs
  have p1 := hours_pos id plan
  have p2 := hours_pos id (sickL staff plan id from_)
  have l1 := planB_len h0.1
  have l2 := planB_len hp2
  rw [a1, b1]
  exact ⟨a2, b2, by rw [hN]; exact hs, ⟨p1.1, by omega⟩, ⟨p2.1, by omega⟩, hp2, by rw [hN]; omega⟩
theorem dutyV_sum {d : Int} (h1 : 1 ≤ d) (h7 : d ≤ 7) : 1 ≤ dutyV d 0 + dutyV d 1 + dutyV d 2 := by
  have hd : d = 1 ∨ d = 2 ∨ d = 3 ∨ d = 4 ∨ d = 5 ∨ d = 6 ∨ d = 7 := by omega
  rcases hd with rfl | rfl | rfl | rfl | rfl | rfl | rfl <;> decide
theorem duty_three : ∀ (L : List Worker) (x y z : Int), (∀ c ∈ L, 1 ≤ c.duties ∧ c.duties ≤ 7) → ∃ a b c : Int, L.foldl (fun s c => addUpto c.duties s 3) [x, y, z] = [a, b, c] ∧ x ≤ a ∧ y ≤ b ∧ z ≤ c ∧ a ≤ x + L.length ∧ b ≤ y + L.length ∧ c ≤ z + L.length ∧ x + y + z + L.length ≤ a + b + c
  | [], x, y, z, _ => ⟨x, y, z, rfl, by omega, by omega, by omega, by simp, by simp, by simp, by simp⟩
  | k :: r, x, y, z, h => by
    obtain ⟨d1, d7⟩ := h k (List.mem_cons_self ..)
    have e : addUpto k.duties [x, y, z] 3 = [x + dutyV k.duties 0, y + dutyV k.duties 1, z + dutyV k.duties 2] := by simp [addUpto]
    rw [List.foldl_cons, e]
    obtain ⟨a, b, c, h1, h2, h3, h4, h5, h6, h7, h8⟩ := duty_three r (x + dutyV k.duties 0) (y + dutyV k.duties 1) (z + dutyV k.duties 2) (fun c hc => h c (List.mem_cons_of_mem _ hc))
    have v0 := dutyV_bd d1 d7 (show 0 < 3 by omega)
    have v1 := dutyV_bd d1 d7 (show 1 < 3 by omega)
    have v2 := dutyV_bd d1 d7 (show 2 < 3 by omega)
    have vs := dutyV_sum d1 d7
    refine ⟨a, b, c, h1, by omega, by omega, by omega, ?_, ?_, ?_, ?_⟩ <;> simp only [List.length_cons] <;> omega
theorem duty_facts {L : List Worker} (h : staffB L = true) : (∀ x ∈ dutyL L, 0 ≤ x ∧ x ≤ 8) ∧ (L.length : Int) ≤ (dutyL L).sum := by
  have hl := riseB_len h
  have hone := riseB_one h
  obtain ⟨a, b, c, h1, h2, h3, h4, h5, h6, h7, h8⟩ := duty_three L 0 0 0 (fun k hk => by
    obtain ⟨j, hj, rfl⟩ := List.mem_iff_getElem.1 hk
    have := hone j _ (List.getElem?_eq_getElem hj)
    simp only [workB, Bool.and_eq_true, inB_iff] at this
    exact this.2.2.1)
  have e : dutyL L = [a, b, c] := by rw [dutyL, if_pos h]; exact h1
  rw [e]
  refine ⟨fun x hx => ?_, by simp; omega⟩
  simp only [List.mem_cons, List.not_mem_nil, or_false] at hx
  rcases hx with rfl | rfl | rfl <;> omega
set_option maxHeartbeats 1000000 in
theorem rSum_any (L : List Int) (A : Option Addr) (cap : Nat) (w : World) (hn : L.length ≤ 1000) (hb : ∀ x ∈ L, 0 ≤ x ∧ x ≤ 1000) (hr : Rd encI 1 w.heap.size w A L) :
    Calls Try.prog 41 #[.slice A L.length cap] w fun e w' => e = .returned (.int .i64 L.sum) ∧ w = w' := by
  have HB := hide hb; clear hb
  go_enter Try.func41, Try.ntmps41
  go_wp2_with fail
  go_loop [3, 4] (fun s i => ∃ (k : Nat) (t : Int), k ≤ L.length ∧ i = .int .i64 k ∧ s = .int .i64 t ∧ Hid (t = (L.take k).sum) ∧ 0 ≤ t ∧ t ≤ 1000 * k) (fun _ i => L.length - (intOf i).toNat)
  case atStart => exact ⟨0, 0, Nat.zero_le _, rfl, rfl, hide (by simp), by omega, by omega⟩
  case round =>
    obtain ⟨k, t, hk, rfl, rfl, HT, t0, t1⟩ := hrel
    by_cases hlt : k < L.length
    · obtain ⟨b, o, rfl, _, hc⟩ := rd_int hr (by intro h; rw [h] at hlt; simp at hlt)
      have y := hc k _ (List.getElem?_eq_getElem hlt)
      obtain ⟨x0, x1⟩ := HB.out _ (List.getElem_mem hlt)
      have HS := hide (show (L.take (k + 1)).sum = (L.take k).sum + L[k] by rw [take_snocL L k hlt, List.sum_append]; simp)
      generalize L[k] = x at *
      have hki : (k : Int) < (L.length : Int) := by omega
      clear hc
      go_wp2_with fail
      go_round
      case rel => exact ⟨k + 1, t + x, by omega, by first | (refine congrArg (Value.int .i64) ?_; omega) | go_num, by first | rfl | go_num, hide (by rw [HS.out, ← HT.out]), by omega, by omega⟩
      case measure => simp [intOf] <;> omega
    · have hki : ¬ (k : Int) < (L.length : Int) := by omega
      obtain rfl : k = L.length := by omega
      go_wp2_with fail
      go_ret
      exact ⟨ret_int (by rw [HT.out, List.take_length]), rfl⟩
set_option maxHeartbeats 1000000 in
theorem rShifts_same (L : List Shift) (n : Nat) (hL : L.length = n) (A B : Option Addr) (ca cb : Nat) (w : World) (hn : n ≤ 100000000) (ha : Rd Shift.enc 4 w.heap.size w A L) (hb : Rd Shift.enc 4 w.heap.size w B L) :
    Calls Try.prog 38 #[.slice A n ca, .slice B n cb] w fun e w' => e = .returned (.bool true) ∧ Below w.heap.size w w' := by
  subst hL
  by_cases hL : L = []
  · subst hL
    go_enter Try.func38, Try.ntmps38
    go_wp2
    go_loop [5] (fun i => i = .int .i64 0) (fun _ => 0)
    case atStart => rfl
    case round =>
      obtain rfl := hrel
      go_wp2
      go_ret
      exact ⟨rfl, Below.refl _ _⟩
  · obtain ⟨b1, o1, rfl, _, hc1⟩ := Shift.rd_at ha hL
    obtain ⟨b2, o2, rfl, _, hc2⟩ := Shift.rd_at hb hL
    clear ha hb
    go_enter Try.func38, Try.ntmps38
    go_wp2_with fail
    go_loopw [5] (fun i wr => ∃ k : Nat, k ≤ L.length ∧ i = .int .i64 k ∧ Below w.heap.size w wr) (fun i _ => L.length - (intOf i).toNat)
    case atStart => exact ⟨0, Nat.zero_le _, rfl, Below.refl _ _⟩
    case round =>
      obtain ⟨k, hk, rfl, hbw⟩ := hrel
      by_cases hlt : k < L.length
      · obtain ⟨c1, c2, c3, c4⟩ := hc1 k _ (List.getElem?_eq_getElem hlt)
        obtain ⟨d1, d2, d3, d4⟩ := hc2 k _ (List.getElem?_eq_getElem hlt)
        replace c1 := below_cell hbw c1; replace c2 := below_cell hbw c2; replace c3 := below_cell hbw c3; replace c4 := below_cell hbw c4; replace d1 := below_cell hbw d1; replace d2 := below_cell hbw d2; replace d3 := below_cell hbw d3; replace d4 := below_cell hbw d4
        generalize L[k] = n at c1 c2 c3 c4 d1 d2 d3 d4
        go_wp2_with fail
        go_quiet (fail)
        go_wp2_with fail
        go_roundw
        case rel => exact ⟨k + 1, by omega, by go_num, below_drewN hbw _⟩
        case measure => simp [intOf]; omega
      · go_wp2_with fail
        go_ret
        exact ⟨rfl, hbw⟩
end Go.Proofs.Ytfaicjlpncidgaa
