/- The plain laws of shifts: who can have a shift gets it, hours worked and left are all hours, a part that is filled is covered. And equal tables, as the law asks them. -/
import Derived.Test.YtfaicjlpncidgaaStaffL
import Derived.Test.YtfaicjlpncidgaaUnc
namespace Go.Proofs.Ytfaicjlpncidgaa
open Go Go.RowKit
set_option linter.unusedVariables false
theorem who_facts {staff : List Worker} {plan : List Shift} {day part duty : Int} (h : whoB staff plan day part duty = true) {i : Nat} {k : Worker} (hk : staff[i]? = some k) :
    putRB staff plan ⟨day, part, k.id, duty⟩ = hasB (whoL staff plan day part duty) k.id ∧ (hoursR staff plan k.id).2.2 = true ∧ (hoursR staff plan k.id).1 + (hoursR staff plan k.id).2.1 = k.hours ∧ 0 ≤ (hoursR staff plan k.id).2.1 ∧ (0 ≤ (hoursR staff plan k.id).1 ∧ (hoursR staff plan k.id).1 ≤ 320) ∧ (0 ≤ k.hours ∧ k.hours ≤ 60) := by
  have h0 := h
  simp only [whoB, Bool.and_eq_true] at h0
  have hp := h0.1
  have hm := List.mem_of_getElem? hk
  have hst : staffB staff = true := by
    cases hh : staffB staff
    · simp [planB, hh] at hp
    · rfl
  have hf := staff_find hst hm
  have hov : staff.any (overP plan) = false := by
    simp only [planB, Bool.and_eq_true, Bool.not_eq_true'] at hp
    exact hp.2.2.2
  have hle : hoursL plan k.id ≤ k.hours := by
    rw [List.any_eq_false] at hov
    have := hov k hm
    simp only [overP, decide_eq_true_eq] at this
    omega
  have hR : hoursR staff plan k.id = (hoursL plan k.id, k.hours - hoursL plan k.id, true) := by unfold hoursR; rw [hf]; simp [hp]
  have hwl : whoL staff plan day part duty = canL staff plan day part duty := by rw [whoL, if_pos h]
  have hh := riseB_one hst i k hk
  simp only [workB, Bool.and_eq_true, inB_iff] at hh
  have p1 := hours_pos k.id plan
  have l1 := planB_len hp
  rw [hR, hwl]
  refine ⟨?_, rfl, (show hoursL plan k.id + (k.hours - hoursL plan k.id) = k.hours by omega), (show 0 ≤ k.hours - hoursL plan k.id by omega), ⟨p1.1, (show hoursL plan k.id ≤ 320 by omega)⟩, hh.2.2.2⟩
  have e : putRB staff plan ⟨day, part, k.id, duty⟩ = canP staff plan day part duty k := by rw [putRB, hp]; rfl
  rw [e]
  cases hc : canP staff plan day part duty k
  · refine (hasB_no fun hx => ?_).symm
    simp only [canL, canT, List.mem_map, List.mem_filter] at hx
    obtain ⟨k2, ⟨_, h2⟩, h3⟩ := hx
    have : canP staff plan day part duty k2 = canP staff plan day part duty k := by unfold canP; rw [h3]
    rw [this, hc] at h2; cases h2
  · refine (hasB_yes ?_).symm
    simp only [canL, canT, List.mem_map, List.mem_filter]
    exact ⟨k, ⟨hm, hc⟩, rfl⟩
theorem ins_mem {α : Type} {L : List α} {i : Nat} {c x : α} : x ∈ insL L i c ↔ x = c ∨ x ∈ L := by
  have e : L = L.take i ++ L.drop i := (List.take_append_drop i L).symm
  constructor
  · intro h
    unfold insL at h
    rcases List.mem_append.1 h with h1 | h1
    · exact .inr (List.mem_of_mem_take h1)
    · rcases List.mem_cons.1 h1 with h2 | h2
      · exact .inl h2
      · exact .inr (List.mem_of_mem_drop h2)
  · intro h
    unfold insL
    rcases h with h1 | h1
    · subst h1; exact List.mem_append_right _ (List.mem_cons_self ..)
    · rw [e] at h1
      rcases List.mem_append.1 h1 with h2 | h2
      · exact List.mem_append_left _ h2
      · exact List.mem_append_right _ (List.mem_cons_of_mem _ h2)
theorem step_cov {staff : List Worker} {day part duty : Int} {P Q : List Shift} (h : fillStep staff day part duty P = some Q) : hasD Q day part duty = true ∧ ∀ x ∈ P, x ∈ Q := by
  unfold fillStep at h
  split at h
  · rename_i hd
    injection h with h
    subst h
    exact ⟨hd, fun x hx => hx⟩
  · split at h
    · cases h
    · rename_i hne
      injection h with h
      subst h
      have hb := can_put (best_mem (plan := P) hne)
      rw [putL, if_pos hb]
      refine ⟨?_, fun x hx => ins_mem.2 (.inr hx)⟩
      rw [hasD, List.any_eq_true]
      exact ⟨_, ins_mem.2 (.inl rfl), by simp [dutP]⟩
theorem has_mono {P Q : List Shift} {day part duty : Int} (h : ∀ x ∈ P, x ∈ Q) (hd : hasD P day part duty = true) : hasD Q day part duty = true := by
  rw [hasD, List.any_eq_true] at hd ⊢
  obtain ⟨x, hx, h2⟩ := hd
  exact ⟨x, h x hx, h2⟩
theorem fill_facts {staff : List Worker} {plan : List Shift} {day part : Int} (h : fillB staff plan day part = true) : planB staff (fillV staff plan day part) = true ∧ covP (fillV staff plan day part) day part = true := by
  have h0 := h
  simp only [fillB, Bool.and_eq_true] at h0
  have hok := h0.1
  have h1 := hok
  simp only [fillOk, Bool.and_eq_true] at h1
  cases h2 : fillTo staff plan day part 2 with
  | none => rw [h2] at h0; simp at h0
  | some Q =>
    have hv : fillV staff plan day part = Q := by rw [fillV, if_pos hok, h2]; rfl
    rw [hv]
    refine ⟨to_plan h1.1 2 Q h2, ?_⟩
    unfold fillTo at h2
    cases h3 : fillTo staff plan day part 1 with
    | none => rw [h3] at h2; cases h2
    | some P =>
      rw [h3] at h2
      obtain ⟨c2, m2⟩ := step_cov (show fillStep staff day part (((1 : Nat) : Int) + 1) P = some Q from h2)
      unfold fillTo at h3
      obtain ⟨c1, _⟩ := step_cov (show fillStep staff day part (((0 : Nat) : Int) + 1) plan = some P from h3)
      have d1 := has_mono m2 c1
      simp only [covP, Bool.and_eq_true]
      exact ⟨d1, c2⟩
theorem unc_rows (plan : List Shift) : ∀ m, ∀ x ∈ uncTo plan m, ∃ d p : Int, x = [d, p] ∧ covP plan d p = false
  | 0, x, hx => by cases hx
  | m + 1, x, hx => by
    unfold uncTo at hx
    split at hx
    · exact unc_rows plan m x hx
    · rename_i hc
      rcases List.mem_append.1 hx with h | h
      · exact unc_rows plan m x h
      · simp at h
        exact ⟨_, _, h, by simpa using hc⟩
theorem unc_row {staff : List Worker} {plan : List Shift} {day part : Int} (hc : covP plan day part = true) {x : List Int} (hx : x ∈ uncV staff plan) : ∃ d p : Int, x = [d, p] ∧ ¬ (d = day ∧ p = part) := by
  have hx2 : x ∈ uncTo plan 21 := by
    unfold uncV at hx
    split at hx
    · exact hx
    · cases hx
  obtain ⟨d, p, e, hf⟩ := unc_rows plan 21 x hx2
  refine ⟨d, p, e, fun h => ?_⟩
  rw [h.1, h.2, hc] at hf
  cases hf
set_option maxHeartbeats 2000000 in
theorem rTable_same (V : List (List Int)) (A B : Option Addr) (lo hi lo2 hi2 ca cb : Nat) (w : World) (hn : V.length ≤ 1000000) (hm : ∀ x ∈ V, x.length ≤ 1000000) (ha : Tab lo hi w A ca V) (hb : Tab lo2 hi2 w B cb V) :
    Calls Try.prog 60 #[.slice A V.length ca, .slice B V.length cb] w fun e w' => e = .returned (.bool true) ∧ Below w.heap.size w w' := by
  obtain ⟨R, eR, lR, rR, dR⟩ := ha.len
  obtain ⟨S, eS, lS, rS, dS⟩ := hb.len
  clear ha hb
  by_cases hV : V = []
  · subst hV
    go_enter Try.func60, Try.ntmps60
    go_wp2_with fail
    go_loop [5] (fun i => i = .int .i64 0) (fun _ => 0)
    case atStart => rfl
    case round =>
      obtain rfl := hrel
      go_wp2_with fail
      go_ret
      exact ⟨rfl, Below.refl _ _⟩
  · have hV0 := List.length_pos_iff.2 hV
    obtain ⟨b1, o1, rfl, hc1⟩ := row_cell rR (by intro h; rw [h] at lR; simp at lR; omega)
    obtain ⟨b2, o2, rfl, hc2⟩ := row_cell rS (by intro h; rw [h] at lS; simp at lS; omega)
    go_enter Try.func60, Try.ntmps60
    go_wp2_with fail
    go_loopw [5] (fun i wr => ∃ k : Nat, k ≤ V.length ∧ i = .int .i64 k ∧ Below w.heap.size w wr) (fun i _ => V.length - (intOf i).toNat)
    case atStart => exact ⟨0, Nat.zero_le _, rfl, Below.refl _ _⟩
    case round =>
      obtain ⟨k, hk, rfl, hbw⟩ := hrel
      by_cases hlt : k < V.length
      · have hkR : k < R.length := by omega
        have hkS : k < S.length := by omega
        have y1 := after_cell (below_cell hbw (hc1 k _ (List.getElem?_eq_getElem hkR)))
        have y2 := after_cell (below_cell hbw (hc2 k _ (List.getElem?_eq_getElem hkS)))
        have q1 := (dR _ (List.getElem_mem hkR)).later hbw
        have q2 := (dS _ (List.getElem_mem hkS)).later hbw
        have hxs : R[k].xs = S[k].xs := by
          have e1 : (R.map Row.xs)[k]'(by simpa using hkR) = (S.map Row.xs)[k]'(by simpa using hkS) := by simp only [eR, eS]
          simpa using e1
        have hxl : R[k].xs.length ≤ 1000000 := hm _ (by rw [← eR]; exact List.mem_map_of_mem (List.getElem_mem hkR))
        have hki : (k : Int) < (V.length : Int) := by omega
        generalize R[k] = r at *
        generalize S[k] = s at *
        rw [← hxs] at y2 q2
        have Q1 := hide q1; have Q2 := hide q2
        clear q1 q2 hxs
        go_wp2_with fail
        refine wp_region_after (by kernel_rfl) (by kernel_rfl) ?_
        repeat (go_big_quiet_step ((go_at_call 40; exact Calls.after (rInts_same r.xs r.xs.length rfl _ _ _ _ _ (by omega) (Q1.out.later (Subtype.property _)) (Q2.out.later (Subtype.property _))))))
        refine wpQuiet_nil ?_
        rintro _ ⟨⟨w1, hb1⟩, rfl⟩
        go_wp2_with fail
        go_roundw
        case rel => exact ⟨k + 1, by omega, by go_num, below_step hbw hb1 (Nat.le_refl _)⟩
        case measure => simp [intOf] <;> omega
      · have hki : ¬ (k : Int) < (V.length : Int) := by omega
        go_wp2_with fail
        go_ret
        exact ⟨rfl, hbw⟩
end Go.Proofs.Ytfaicjlpncidgaa
