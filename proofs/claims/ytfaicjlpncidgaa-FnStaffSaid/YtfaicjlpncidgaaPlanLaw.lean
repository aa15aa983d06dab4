/- Plans: the two functions answer alike. -/
import Derived.Test.YtfaicjlpncidgaaPlanS
namespace Go.Proofs.Ytfaicjlpncidgaa
open Go Go.RowKit
theorem ltS_ltT {d c : Shift} (hd : Bd d) (hc : Bd c) : ltS d c = ltT d c := by
  obtain ⟨⟨_, _⟩, _, _⟩ := hd
  obtain ⟨⟨_, _⟩, _, _⟩ := hc
  have e := cmpS_neg d c
  have e1 : ltS d c = true ↔ cmpS d c < 0 := by simp [ltS]
  have e2 : ltT d c = true ↔ ¬ (atS c < atS d) ∧ (¬ (atS d = atS c) ∨ ¬ (c.who ≤ d.who)) := by simp [ltT]
  rw [Bool.eq_iff_iff, e1, e2, e]
  unfold atS
  constructor
  · rintro (h | ⟨h, h2 | ⟨h2, h3⟩⟩)
    · exact ⟨by omega, .inl (by omega)⟩
    · exact ⟨by omega, .inl (by omega)⟩
    · exact ⟨by omega, .inr (by omega)⟩
  · rintro ⟨h, h2⟩
    rcases Int.lt_trichotomy d.day c.day with h3 | h3 | h3
    · exact .inl h3
    · refine .inr ⟨h3, ?_⟩
      rcases Int.lt_trichotomy d.part c.part with h4 | h4 | h4
      · exact .inl h4
      · exact .inr ⟨h4, by rcases h2 with h2 | h2 <;> omega⟩
      · omega
    · omega
/- the workers of staff: the numbers differ -/
theorem staff_find {staff : List Worker} (h : staffB staff = true) {k : Worker} (hk : k ∈ staff) : staff.find? (isId k.id) = some k := by
  obtain ⟨n, hn, rfl⟩ := List.mem_iff_getElem.1 hk
  rw [List.find?_eq_some_iff_getElem]
  refine ⟨by simp [isId], n, hn, rfl, fun j hj => ?_⟩
  have mono : ∀ (m j : Nat) (hm : m < staff.length) (hj : j < m), (staff[j]'(by omega)).id < staff[m].id := by
    intro m
    induction m with
    | zero => intro j _ hj; omega
    | succ m ih =>
      intro j hm hj
      have h1 := riseB_lt h (List.getElem?_eq_getElem (show m < staff.length by omega)) (List.getElem?_eq_getElem hm)
      simp only [workLt, decide_eq_true_eq] at h1
      rcases Nat.lt_or_eq_of_le (Nat.lt_succ_iff.1 hj) with h2 | h2
      · have := ih j (by omega) h2; omega
      · subst h2; exact h1
  have := mono n j hn hj
  simp [isId]; omega
theorem staff_hours {staff : List Worker} (h : staffB staff = true) {k : Worker} (hk : k ∈ staff) : 0 ≤ k.hours := by
  obtain ⟨n, hn, rfl⟩ := List.mem_iff_getElem.1 hk
  have := riseB_one h n _ (List.getElem?_eq_getElem hn)
  simp only [workB, Bool.and_eq_true, inB_iff] at this
  omega
theorem hours_none (id : Int) : ∀ (L : List Shift) (n : Int), (∀ c ∈ L, c.who ≠ id) → L.foldl (fun n c => if c.who = id then n + 8 else n) n = n
  | [], _, _ => rfl
  | c :: L, n, h => by
    simp only [List.foldl_cons, h c List.mem_cons_self, if_false]
    exact hours_none id L n (fun d hd => h d (List.mem_cons_of_mem _ hd))
theorem rise_lt_all {one : Shift → Bool} {plan : List Shift} {k : Nat} (hone : ∀ s, one s = true → Bd s) (h : ∀ j, j ≤ k → riseAt one ltT plan j = true) (hk : k < plan.length) : ∀ (j : Nat) (hj : j < k), ltT (plan[j]'(by omega)) plan[k] = true := by
  have bd : ∀ j (hj : j ≤ k), Bd (plan[j]'(by omega)) := by
    intro j hj
    have := h j hj
    simp only [riseAt, List.getElem?_eq_getElem (show j < plan.length by omega), Bool.and_eq_true] at this
    exact hone _ this.1
  have step : ∀ m (hm : m + 1 ≤ k), ltT (plan[m]'(by omega)) (plan[m + 1]'(by omega)) = true := by
    intro m hm
    have := h (m + 1) hm
    simp only [riseAt, List.getElem?_eq_getElem (show m + 1 < plan.length by omega), Nat.add_sub_cancel, List.getElem?_eq_getElem (show m < plan.length by omega), Bool.and_eq_true] at this
    simpa using this.2
  have trans : ∀ m (hm : m ≤ k) (j : Nat) (hj : j < m), ltT (plan[j]'(by omega)) (plan[m]'(by omega)) = true := by
    intro m
    induction m with
    | zero => intro _ j hj; omega
    | succ m ih =>
      intro hm j hj
      have h1 := step m hm
      rcases Nat.lt_or_eq_of_le (Nat.lt_succ_iff.1 hj) with h2 | h2
      · have h3 := ih (by omega) j h2
        generalize plan[j]'(by omega) = x at *
        generalize plan[m]'(by omega) = y at *
        generalize plan[m + 1]'(by omega) = z at *
        simp only [ltT, Bool.not_eq_true', Bool.or_eq_false_iff, Bool.and_eq_false_iff, decide_eq_false_iff_not, beq_eq_false_iff_ne] at h1 h3 ⊢
        omega
      · subst h2; exact h1
  exact fun j hj => trans k (Nat.le_refl _) j hj
theorem rise_to {one one' : Shift → Bool} {lt lt' : Shift → Shift → Bool} {plan : List Shift} {j : Nat} (h : ∀ c ∈ plan, one c = true → one' c = true) (hl : ∀ d c, one d = true → one c = true → lt d c = true → lt' d c = true) (hj : ∀ i, i ≤ j → riseAt one lt plan i = true) : riseAt one' lt' plan j = true := by
  have h1 := hj j (Nat.le_refl _)
  have h0 := hj (j - 1) (by omega)
  revert h1 h0
  unfold riseAt
  cases hc : plan[j]? with
  | none => intro _ _; rfl
  | some c =>
    cases hd : plan[j - 1]? with
    | none => intro h1 _; simp only [Bool.and_eq_true] at h1 ⊢; exact ⟨h c (List.mem_of_getElem? hc) h1.1, by simp⟩
    | some d =>
      intro h1 h0
      simp only [Bool.and_eq_true, Bool.or_eq_true] at h1 h0 ⊢
      exact ⟨h c (List.mem_of_getElem? hc) h1.1, h1.2.imp id (hl d c h0.1 h1.1)⟩
theorem oneS_bd {staff : List Worker} (s : Shift) (h : oneS staff s = true) : Bd s := by
  simp only [oneS, Bool.and_eq_true] at h; exact partB_bd h.1
theorem oneT_bd {staff : List Worker} {plan : List Shift} (s : Shift) (h : oneT staff plan s = true) : Bd s := by
  simp only [oneT, Bool.and_eq_true] at h; exact partB_bd h.1
theorem take_earlier {plan : List Shift} {j : Nat} {o : Shift} (h : o ∈ plan.take j) : ∃ (i : Nat) (_ : i < j) (hn : i < plan.length), plan[i] = o := by
  obtain ⟨i, hi, rfl⟩ := List.mem_iff_getElem.1 h
  rw [List.length_take] at hi
  exact ⟨i, by omega, by omega, by rw [List.getElem_take]⟩
theorem plan_same (staff : List Worker) (plan : List Shift) : planB staff plan = planT staff plan := by
  cases hst : staffB staff
  · simp [planB, planT, hst]
  cases h40 : decide (plan.length ≤ 40)
  · simp only [planB, planT, h40]; simp
  rw [Bool.eq_iff_iff]
  simp only [planB, planT, hst, h40, Bool.true_and, Bool.and_eq_true, Bool.not_eq_true']
  constructor
  · rintro ⟨hA, hO⟩
    have hat : ∀ j, j < plan.length → planAt staff plan j = true := fun j hj => allAt_at hA hj
    have hrise : ∀ j, j < plan.length → riseAt (oneS staff) ltS plan j = true := fun j hj => by
      have := hat j hj; simp only [planAt, Bool.and_eq_true] at this; exact this.1
    have one : ∀ c ∈ plan, oneS staff c = true → oneT staff plan c = true := by
      intro c _ h1
      simp only [oneS, Bool.and_eq_true, hasDutyW] at h1
      obtain ⟨h2, h3, h4⟩ := h1
      cases hf : staff.find? (isId c.who) with
      | none => simp [hf] at h4
      | some k =>
        rw [hf] at h4
        have hk := List.mem_of_find?_eq_some hf
        have hi : k.id = c.who := by simpa [isId] using List.find?_some hf
        have hov := List.any_eq_false.1 hO k hk
        simp only [overP, hi, decide_eq_true_eq] at hov
        simp only [oneT, h2, h3, hasT, hf, Bool.true_and, h4]
        simpa using hov
    have hriseT : ∀ j, j < plan.length → riseAt (oneT staff plan) ltT plan j = true := fun j hj =>
      rise_to one (fun d c hd hc h => (ltS_ltT (oneS_bd d hd) (oneS_bd c hc)) ▸ h) (fun i hi => hrise i (by omega))
    refine allAt_yes (Nat.le_refl _) fun j hj => planTAt_yes (List.getElem?_eq_getElem hj) (hriseT j hj) ?_
    rw [List.any_eq_false]
    intro o ho
    obtain ⟨i, hi, hn, rfl⟩ := take_earlier ho
    have hlt := rise_lt_all (fun s hs => oneT_bd s hs) (fun i _ => hriseT i (by omega)) hj i hi
    have hadj := hat j hj
    simp only [planAt, List.getElem?_eq_getElem hj, Bool.and_eq_true, Bool.not_eq_true'] at hadj
    have hno := List.any_eq_false.1 hadj.2 _ ho
    generalize plan[i] = x at *
    generalize plan[j] = y at *
    have e1 : ltT x y = true ↔ ¬ (atS y < atS x) ∧ (¬ (atS x = atS y) ∨ ¬ (y.who ≤ x.who)) := by simp [ltT]
    have e2 : closeT y x = true ↔ x.who = y.who ∧ atS y - atS x < 2 := by simp [closeT]
    have e3 : adjP y.who (3 * y.day + y.part) x = true ↔ x.who = y.who ∧ atS x = atS y - 1 := by simp [adjP, atS]
    rw [e1] at hlt
    rw [e2]
    rw [e3] at hno
    rintro ⟨h1, h2⟩
    refine hno ⟨h1, ?_⟩
    obtain ⟨h3, h4⟩ := hlt
    rcases h4 with h4 | h4 <;> omega
  · intro hA
    have hat : ∀ j, j < plan.length → planTAt staff plan j = true := fun j hj => allAt_at hA hj
    have hrise : ∀ j, j < plan.length → riseAt (oneT staff plan) ltT plan j = true := fun j hj => by
      have := hat j hj; simp only [planTAt, Bool.and_eq_true] at this; exact this.1
    have honeT : ∀ c ∈ plan, oneT staff plan c = true := by
      intro c hc
      obtain ⟨n, hn, rfl⟩ := List.mem_iff_getElem.1 hc
      have := hrise n hn
      simp only [riseAt, List.getElem?_eq_getElem hn, Bool.and_eq_true] at this
      exact this.1
    have one : ∀ c ∈ plan, oneT staff plan c = true → oneS staff c = true := by
      intro c _ h1
      simp only [oneT, Bool.and_eq_true, hasT] at h1
      obtain ⟨h2, h3, h4⟩ := h1
      cases hf : staff.find? (isId c.who) with
      | none => simp [hf] at h4
      | some k =>
        rw [hf] at h4
        simp only [Bool.and_eq_true] at h4
        simp only [oneS, h2, h3, hasDutyW, hf, h4.1, Bool.true_and]
    have hriseS : ∀ j, j < plan.length → riseAt (oneS staff) ltS plan j = true := fun j hj =>
      rise_to one (fun d c hd hc h => (ltS_ltT (oneT_bd d hd) (oneT_bd c hc)).symm ▸ h) (fun i hi => hrise i (by omega))
    constructor
    · refine allAt_yes (Nat.le_refl _) fun j hj => planAt_yes (List.getElem?_eq_getElem hj) (hriseS j hj) ?_
      rw [List.any_eq_false]
      intro o ho
      have hadj := hat j hj
      simp only [planTAt, List.getElem?_eq_getElem hj, Bool.and_eq_true, Bool.not_eq_true'] at hadj
      have hno := List.any_eq_false.1 hadj.2 _ ho
      generalize plan[j] = y at *
      have e2 : closeT y o = true ↔ o.who = y.who ∧ atS y - atS o < 2 := by simp [closeT]
      have e3 : adjP y.who (3 * y.day + y.part) o = true ↔ o.who = y.who ∧ atS o = atS y - 1 := by simp [adjP, atS]
      rw [e2] at hno
      rw [e3]
      rintro ⟨h1, h2⟩
      exact hno ⟨h1, by omega⟩
    · rw [List.any_eq_false]
      intro k hk
      have hh := staff_hours hst hk
      by_cases hex : ∃ c ∈ plan, c.who = k.id
      · obtain ⟨c, hc, hw⟩ := hex
        have h1 := honeT c hc
        have hf := staff_find hst hk
        simp only [oneT, Bool.and_eq_true, hasT, hw, hf] at h1
        simpa [overP] using h1.2.2.2
      · have := hours_none k.id plan 0 (fun c hc h => hex ⟨c, hc, h⟩)
        simp only [overP, hoursL, this, decide_eq_true_eq]
        omega
theorem own_cap {α : Type} {enc : α → List Value} {sz T lo n cap : Nat} {w : World} {A : Option Addr} {L : List α} (h : Own enc sz T lo w (.slice A n cap) L) : n ≤ cap := by
  rcases h.2 with ⟨hv, _⟩ | ⟨g, c, cur, hv, _, _, h4, _⟩
  · cases hv; exact Nat.le_refl _
  · cases hv; exact h4
theorem IsPlan_spec (staff : List Worker) (plan : List Shift) (A0 A1 : Option Addr) (c0 c1 : Nat) (w : World) (r0 : Rd Worker.enc 4 w.heap.size w A0 staff) (r1 : Rd Shift.enc 4 w.heap.size w A1 plan) (ok0 : ∀ c ∈ staff, c.Ok) (l0 : staff.length ≤ maxLen) (l1 : plan.length ≤ maxLen) :
    Calls Try.prog 26 #[.slice A0 staff.length c0, .slice A1 plan.length c1] w fun e w' => e = .returned (.bool (planB staff plan)) ∧ Below w.heap.size w w' := by
  go_enter Try.func26, Try.ntmps26
  go_wp2_with (go_at_call 68; refine (l22Plan_any staff plan A0 A1 c0 c1 _ r0 r1 ok0 l0 l1).mono ?_; rintro e w' ⟨rfl, hb⟩)
  go_ret
  exact ⟨ret_bool (plan_same staff plan).symm, hb⟩
end Go.Proofs.Ytfaicjlpncidgaa
