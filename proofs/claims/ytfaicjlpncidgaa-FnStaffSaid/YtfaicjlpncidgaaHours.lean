/- Hours of a worker: the program's function and the reference's. -/
import Derived.Test.YtfaicjlpncidgaaPlanLaw
namespace Go.Proofs.Ytfaicjlpncidgaa
open Go Go.RowKit
theorem l22Find_big (L : List Worker) (A : Option Addr) (cap : Nat) (id : Int) (w : World) (hr : Rd Worker.enc 4 w.heap.size w A L) (hl : L.length ≤ maxLen) :
    Calls Try.prog 79 #[.slice A L.length cap, .int .i64 id] w fun e w' => e = .returned (.int .i64 (idxF (isId id) L)) ∧ w = w' := by
  unfold maxLen at hl
  go_enter Try.func79, Try.ntmps79
  go_wp2_with fail
  go_loop [5] (fun i => ∃ k : Nat, k ≤ L.length ∧ i = .int .i64 k ∧ Hid (∀ (j : Nat) (d : Worker), j < k → L[j]? = some d → isId id d = false)) (fun i => L.length - (intOf i).toNat)
  case atStart => exact ⟨0, Nat.zero_le _, rfl, hide (fun j d hj => absurd hj (Nat.not_lt_zero j))⟩
  case round =>
    obtain ⟨k, hk, rfl, hn⟩ := hrel
    by_cases hlt : k < L.length
    · obtain ⟨b, o, rfl, hb, hc⟩ := Worker.rd_at hr (by intro h; subst h; simp at hlt)
      have hget := List.getElem?_eq_getElem hlt
      obtain ⟨c0, c1, c2, c3⟩ := hc k _ hget
      generalize L[k] = c at *
      have HG := hide hget; clear hget hc hr
      cases hw : isId id c
      · have hb0 : (c.id == id) = false := hw
        have HW := hide hw; clear hw
        go_wp2_with fail
        go_round
        case rel => exact ⟨k + 1, by omega, by go_num, hide (no_step hn.out HG.out HW.out)⟩
        case measure => simp [intOf]; omega
      · have hb0 : (c.id == id) = true := hw
        have HW := hide hw; clear hw
        go_wp2_with fail
        go_ret
        exact ⟨ret_int (idxF_hit HG.out HW.out hn.out).symm, rfl⟩
    · obtain rfl : k = L.length := by omega
      go_wp2_with fail
      go_ret
      exact ⟨ret_int (idxF_none hn.out).symm, rfl⟩
theorem find_is {L : List Worker} {id z : Int} (h : idxF (isId id) L = z) (A : Option Addr) (cap : Nat) (w : World) (hr : Rd Worker.enc 4 w.heap.size w A L) (hl : L.length ≤ maxLen) :
    Calls Try.prog 79 #[.slice A L.length cap, .int .i64 id] w fun e w' => e = .returned (.int .i64 z) ∧ w = w' := h ▸ l22Find_big L A cap id w hr hl
/- what HoursOf answers: hours, hours left, whether -/
def hoursR (staff : List Worker) (plan : List Shift) (id : Int) : Int × Int × Bool := match staff.find? (isId id) with
  | none => (0, 0, false)
  | some k => if planB staff plan then (hoursL plan id, k.hours - hoursL plan id, true) else (0, 0, false)
-- WALKS
theorem IsPlan_is {staff : List Worker} {plan : List Shift} {b : Bool} (h : planB staff plan = b) (A0 A1 : Option Addr) (c0 c1 : Nat) (w : World) (r0 : Rd Worker.enc 4 w.heap.size w A0 staff) (r1 : Rd Shift.enc 4 w.heap.size w A1 plan) (ok0 : ∀ c ∈ staff, c.Ok) (l0 : staff.length ≤ maxLen) (l1 : plan.length ≤ maxLen) (hcap : plan.length ≤ c1) :
    Calls Try.prog 28 #[.slice A0 staff.length c0, .slice A1 plan.length c1] w fun e w' => e = .returned (.bool b) ∧ Below w.heap.size w w' := h ▸ IsPlan_any staff plan A0 A1 c0 c1 w r0 r1 ok0 l0 l1 hcap
theorem l22Plan_is {staff : List Worker} {plan : List Shift} {b : Bool} (h : planB staff plan = b) (A0 A1 : Option Addr) (c0 c1 : Nat) (w : World) (r0 : Rd Worker.enc 4 w.heap.size w A0 staff) (r1 : Rd Shift.enc 4 w.heap.size w A1 plan) (ok0 : ∀ c ∈ staff, c.Ok) (l0 : staff.length ≤ maxLen) (l1 : plan.length ≤ maxLen) :
    Calls Try.prog 68 #[.slice A0 staff.length c0, .slice A1 plan.length c1] w fun e w' => e = .returned (.bool b) ∧ Below w.heap.size w w' := h ▸ (plan_same staff plan).symm ▸ l22Plan_any staff plan A0 A1 c0 c1 w r0 r1 ok0 l0 l1
theorem planB_len {staff : List Worker} {plan : List Shift} (h : planB staff plan = true) : plan.length ≤ 40 := by
  simp only [planB, Bool.and_eq_true, decide_eq_true_eq] at h; exact h.2.1

set_option maxHeartbeats 1000000 in
theorem HoursOf_any (staff : List Worker) (plan : List Shift) (id : Int) (A0 A1 : Option Addr) (c0 c1 : Nat) (w : World) (r0 : Rd Worker.enc 4 w.heap.size w A0 staff) (r1 : Rd Shift.enc 4 w.heap.size w A1 plan) (ok0 : ∀ c ∈ staff, c.Ok) (l0 : staff.length ≤ maxLen) (l1 : plan.length ≤ maxLen) (hcap : plan.length ≤ c1) :
    Calls Try.prog 31 #[.slice A0 staff.length c0, .slice A1 plan.length c1, .int .i64 id] w fun e w' => e = .returned (.tuple #[.int .i64 (hoursR staff plan id).1, .int .i64 (hoursR staff plan id).2.1, .bool (hoursR staff plan id).2.2]) ∧ Below w.heap.size w w' := by
  rcases idxF_cases (isId id) staff with ⟨hi, hany⟩ | ⟨kk, wk, hi, hkl, hgk, hpk, _, hno⟩
  · have HI := hide hi; clear hi
    have hfi : staff.find? (isId id) = none := by rw [List.find?_eq_none]; intro x hx; have := (List.any_eq_false.1 hany) x hx; simpa using this
    have HR := hide (show hoursR staff plan id = (0, 0, false) by simp [hoursR, hfi])
    cases hp : planB staff plan
    · have HP := hide hp; clear hp
      go_enter Try.func31, Try.ntmps31
      go_wp2_with (first | (go_at_call 69; refine (workerOf_is HI.out _ _ _ r0 l0).mono ?_; rintro e w1 ⟨rfl, hb1⟩) | (go_at_call 28; refine (IsPlan_is HP.out _ _ _ _ _ (r0.later hb1) (r1.later hb1) ok0 l0 l1 hcap).mono ?_; rintro e w2 ⟨rfl, hb2⟩))
      go_ret3
      exact ⟨by rw [HR.out]; rfl, (below_step hb1 hb2 (Nat.le_refl _))⟩
    · have HP := hide hp; clear hp
      go_enter Try.func31, Try.ntmps31
      go_wp2_with (first | (go_at_call 69; refine (workerOf_is HI.out _ _ _ r0 l0).mono ?_; rintro e w1 ⟨rfl, hb1⟩) | (go_at_call 28; refine (IsPlan_is HP.out _ _ _ _ _ (r0.later hb1) (r1.later hb1) ok0 l0 l1 hcap).mono ?_; rintro e w2 ⟨rfl, hb2⟩))
      go_ret3
      exact ⟨by rw [HR.out]; rfl, (below_step hb1 hb2 (Nat.le_refl _))⟩
  · have HI := hide hi; clear hi
    have hfi : staff.find? (isId id) = some wk := by rw [List.find?_eq_some_iff_getElem]; obtain ⟨hkl', rfl⟩ := List.getElem?_eq_some_iff.1 hgk; exact ⟨hpk, kk, hkl', rfl, fun j hj => by simpa using hno j _ hj (List.getElem?_eq_getElem (by omega))⟩
    cases hp : planB staff plan
    · have HR := hide (show hoursR staff plan id = (0, 0, false) by simp [hoursR, hfi, hp])
      have HP := hide hp; clear hp
      go_enter Try.func31, Try.ntmps31
      go_wp2_with (first | (go_at_call 69; refine (workerOf_is HI.out _ _ _ r0 l0).mono ?_; rintro e w1 ⟨rfl, hb1⟩) | (go_at_call 28; refine (IsPlan_is HP.out _ _ _ _ _ (r0.later hb1) (r1.later hb1) ok0 l0 l1 hcap).mono ?_; rintro e w2 ⟨rfl, hb2⟩))
      go_ret3
      exact ⟨by rw [HR.out]; rfl, (below_step hb1 hb2 (Nat.le_refl _))⟩
    · have HR := hide (show hoursR staff plan id = (hoursL plan id, wk.hours - hoursL plan id, true) by simp [hoursR, hfi, hp])
      have HP := hide hp; clear hp
      have hkk : (kk : Int) < (staff.length : Int) := by omega
      obtain ⟨b', o', rfl, _, hc'⟩ := Worker.rd_at r0 (by intro h; subst h; simp at hkl)
      obtain ⟨v0, v1, v2, v3⟩ := hc' kk _ hgk
      clear hc' hno hfi v0 v1 v2
      have hbd := hoursL_bd plan id
      have hpl := planB_len HP.out
      have hwk : 0 ≤ wk.hours ∧ wk.hours ≤ 60 := by have h := HP.out; simp only [planB, Bool.and_eq_true] at h; have := riseB_one h.1 kk _ hgk; simp only [workB, Bool.and_eq_true, inB_iff] at this; omega
      have hh1 : -1000 ≤ hoursL plan id ∧ hoursL plan id ≤ 1000 := by omega
      clear hbd hgk
      go_enter Try.func31, Try.ntmps31
      go_wp2_with (first | (go_at_call 69; refine (workerOf_is HI.out _ _ _ r0 l0).mono ?_; rintro e w1 ⟨rfl, hb1⟩) | (go_at_call 28; refine (IsPlan_is HP.out _ _ _ _ _ (r0.later hb1) (r1.later hb1) ok0 l0 l1 hcap).mono ?_; rintro e w2 ⟨rfl, hb2⟩) | (go_at_call 77; refine (hoursOf_any plan _ _ id _ (r1.later (below_step hb1 hb2 (Nat.le_refl _))) (by have := planB_len HP.out; omega)).mono ?_; rintro e w3 ⟨rfl, hb3⟩; have u3 := below_cell (below_step (below_step hb1 hb2 (Nat.le_refl _)) hb3 (Nat.le_refl _)) v3))
      have q3 := after_cell u3
      refine wp_region_after (by kernel_rfl) (by kernel_rfl) ?_
      repeat (go_big_quiet_step (fail))
      refine wpQuiet_nil ?_
      rintro w4 ⟨⟨_, hb4⟩, rfl⟩
      go_wp2_with fail
      go_ret3
      exact ⟨by rw [HR.out]; rfl, below_step (below_step (below_step hb1 hb2 (Nat.le_refl _)) hb3 (Nat.le_refl _)) hb4 (Nat.le_refl _)⟩
set_option maxHeartbeats 1000000 in
theorem HoursOf_spec (staff : List Worker) (plan : List Shift) (id : Int) (A0 A1 : Option Addr) (c0 c1 : Nat) (w : World) (r0 : Rd Worker.enc 4 w.heap.size w A0 staff) (r1 : Rd Shift.enc 4 w.heap.size w A1 plan) (ok0 : ∀ c ∈ staff, c.Ok) (l0 : staff.length ≤ maxLen) (l1 : plan.length ≤ maxLen) :
    Calls Try.prog 30 #[.slice A0 staff.length c0, .slice A1 plan.length c1, .int .i64 id] w fun e w' => e = .returned (.tuple #[.int .i64 (hoursR staff plan id).1, .int .i64 (hoursR staff plan id).2.1, .bool (hoursR staff plan id).2.2]) ∧ Below w.heap.size w w' := by
  rcases idxF_cases (isId id) staff with ⟨hi, hany⟩ | ⟨kk, wk, hi, hkl, hgk, hpk, _, hno⟩
  · have HI := hide hi; clear hi
    have hfi : staff.find? (isId id) = none := by rw [List.find?_eq_none]; intro x hx; have := (List.any_eq_false.1 hany) x hx; simpa using this
    have HR := hide (show hoursR staff plan id = (0, 0, false) by simp [hoursR, hfi])
    cases hp : planB staff plan
    · have HP := hide hp; clear hp
      go_enter Try.func30, Try.ntmps30
      go_wp2_with (first | (go_at_call 79; refine (find_is HI.out _ _ _ r0 l0).mono ?_; rintro e w1 ⟨rfl, rfl⟩) | (go_at_call 68; refine (l22Plan_is HP.out _ _ _ _ _ r0 r1 ok0 l0 l1).mono ?_; rintro e w2 ⟨rfl, hb2⟩))
      go_ret3
      exact ⟨by rw [HR.out]; rfl, hb2⟩
    · have HP := hide hp; clear hp
      go_enter Try.func30, Try.ntmps30
      go_wp2_with (first | (go_at_call 79; refine (find_is HI.out _ _ _ r0 l0).mono ?_; rintro e w1 ⟨rfl, rfl⟩) | (go_at_call 68; refine (l22Plan_is HP.out _ _ _ _ _ r0 r1 ok0 l0 l1).mono ?_; rintro e w2 ⟨rfl, hb2⟩))
      go_ret3
      exact ⟨by rw [HR.out]; rfl, hb2⟩
  · have HI := hide hi; clear hi
    have hfi : staff.find? (isId id) = some wk := by rw [List.find?_eq_some_iff_getElem]; obtain ⟨hkl', rfl⟩ := List.getElem?_eq_some_iff.1 hgk; exact ⟨hpk, kk, hkl', rfl, fun j hj => by simpa using hno j _ hj (List.getElem?_eq_getElem (by omega))⟩
    cases hp : planB staff plan
    · have HR := hide (show hoursR staff plan id = (0, 0, false) by simp [hoursR, hfi, hp])
      have HP := hide hp; clear hp
      go_enter Try.func30, Try.ntmps30
      go_wp2_with (first | (go_at_call 79; refine (find_is HI.out _ _ _ r0 l0).mono ?_; rintro e w1 ⟨rfl, rfl⟩) | (go_at_call 68; refine (l22Plan_is HP.out _ _ _ _ _ r0 r1 ok0 l0 l1).mono ?_; rintro e w2 ⟨rfl, hb2⟩))
      go_ret3
      exact ⟨by rw [HR.out]; rfl, hb2⟩
    · have HR := hide (show hoursR staff plan id = (hoursL plan id, wk.hours - hoursL plan id, true) by simp [hoursR, hfi, hp])
      have HP := hide hp; clear hp
      have hkk : (kk : Int) < (staff.length : Int) := by omega
      obtain ⟨b', o', rfl, _, hc'⟩ := Worker.rd_at r0 (by intro h; subst h; simp at hkl)
      obtain ⟨v0, v1, v2, v3⟩ := hc' kk _ hgk
      clear hc' hno hfi v0 v1 v2
      have hbd := hoursL_bd plan id
      have hpl := planB_len HP.out
      have hwk : 0 ≤ wk.hours ∧ wk.hours ≤ 60 := by have h := HP.out; simp only [planB, Bool.and_eq_true] at h; have := riseB_one h.1 kk _ hgk; simp only [workB, Bool.and_eq_true, inB_iff] at this; omega
      have hh1 : -1000 ≤ hoursL plan id ∧ hoursL plan id ≤ 1000 := by omega
      clear hbd hgk
      go_enter Try.func30, Try.ntmps30
      go_wp2_with (first | (go_at_call 79; refine (find_is HI.out _ _ _ r0 l0).mono ?_; rintro e w1 ⟨rfl, rfl⟩) | (go_at_call 68; refine (l22Plan_is HP.out _ _ _ _ _ r0 r1 ok0 l0 l1).mono ?_; rintro e w2 ⟨rfl, hb2⟩) | (go_at_call 80; refine (l22Worked_any plan _ _ id _ (r1.later hb2) (by have := planB_len HP.out; omega)).mono ?_; rintro e w3 ⟨rfl, rfl⟩; have u3 := below_cell hb2 v3))
      have q3 := after_cell u3
      refine wp_region_after (by kernel_rfl) (by kernel_rfl) ?_
      repeat (go_big_quiet_step (fail))
      refine wpQuiet_nil ?_
      rintro w4 ⟨⟨_, hb4⟩, rfl⟩
      go_wp2_with fail
      go_ret3
      exact ⟨by rw [HR.out]; rfl, below_step hb2 hb4 (Nat.le_refl _)⟩
end Go.Proofs.Ytfaicjlpncidgaa
