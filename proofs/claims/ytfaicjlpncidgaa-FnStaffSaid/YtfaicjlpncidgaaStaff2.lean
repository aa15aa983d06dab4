/- Staff: duties, parts of a day, the hours that a worker works, the index of a worker, the order of shifts. Plans are short, days and parts are as a valid plan has them where their number is reckoned. -/
import Derived.Test.YtfaicjlpncidgaaStaff
import Derived.Test.YtfaicjlpncidgaaCmp
import Derived.Test.YtfaicjlpncidgaaLibWorker
import Derived.Test.YtfaicjlpncidgaaLibShift
import Derived.StillTailTactics
namespace Go.Proofs.Ytfaicjlpncidgaa
open Go Go.RowKit

def dutyB (d : Int) : Bool := d == 1 || (d == 2 || d == 4)
def partB (day part : Int) : Bool := inB day 0 6 && inB part 0 2
theorem isDuty_any (d : Int) (w : World) : Calls Try.prog 71 #[.int .i64 d] w fun e w' => e = .returned (.bool (dutyB d)) ∧ w = w' := by
  cases h1 : (d == 1)
  · cases h2 : (d == 2)
    · go_enter Try.func71, Try.ntmps71
      go_wp2_with fail
      go_ret
      exact ⟨ret_bool (by simp [dutyB, h1, h2]), rfl⟩
    · go_enter Try.func71, Try.ntmps71
      go_wp2_with fail
      go_ret
      exact ⟨ret_bool (by simp [dutyB, h2]), rfl⟩
  · go_enter Try.func71, Try.ntmps71
    go_wp2_with fail
    go_ret
    exact ⟨ret_bool (by simp [dutyB, h1]), rfl⟩
theorem l22Duty_any (d : Int) (w : World) : Calls Try.prog 94 #[.int .i64 d] w fun e w' => e = .returned (.bool (dutyB d)) ∧ w = w' := by
  cases h1 : (d == 1)
  · cases h2 : (d == 2)
    · go_enter Try.func94, Try.ntmps94
      go_wp2_with fail
      go_ret
      exact ⟨ret_bool (by simp [dutyB, h1, h2]), rfl⟩
    · go_enter Try.func94, Try.ntmps94
      go_wp2_with fail
      go_ret
      exact ⟨ret_bool (by simp [dutyB, h2]), rfl⟩
  · go_enter Try.func94, Try.ntmps94
    go_wp2_with fail
    go_ret
    exact ⟨ret_bool (by simp [dutyB, h1]), rfl⟩
theorem isPart_any (d p : Int) (w : World) : Calls Try.prog 70 #[.int .i64 d, .int .i64 p] w fun e w' => e = .returned (.bool (partB d p)) ∧ w = w' := by
  cases h : inB d 0 6
  · go_enter Try.func70, Try.ntmps70
    go_wp2_with (go_at_call 64; refine (within_is h _).mono ?_; rintro e w' ⟨rfl, rfl⟩)
    go_ret
    exact ⟨ret_bool (by simp [partB, h]), rfl⟩
  · go_enter Try.func70, Try.ntmps70
    go_wp2_with (first | (go_at_call_of 64 (Value.int IntKind.i64 d); refine (within_is h _).mono ?_; rintro e w' ⟨rfl, rfl⟩) | (go_at_call 64; refine (within_any _ _ _ _).mono ?_; rintro e w' ⟨rfl, rfl⟩))
    go_ret
    exact ⟨ret_bool (by simp [partB, h]), rfl⟩
theorem l22Part_any (d p : Int) (w : World) : Calls Try.prog 93 #[.int .i64 d, .int .i64 p] w fun e w' => e = .returned (.bool (partB d p)) ∧ w = w' := by
  cases h : inB d 0 6
  · go_enter Try.func93, Try.ntmps93
    go_wp2_with (go_at_call 81; refine (l1In_is h _).mono ?_; rintro e w' ⟨rfl, rfl⟩)
    go_ret
    exact ⟨ret_bool (by simp [partB, h]), rfl⟩
  · go_enter Try.func93, Try.ntmps93
    go_wp2_with (first | (go_at_call_of 81 (Value.int IntKind.i64 d); refine (l1In_is h _).mono ?_; rintro e w' ⟨rfl, rfl⟩) | (go_at_call 81; refine (l1In_any _ _ _ _).mono ?_; rintro e w' ⟨rfl, rfl⟩))
    go_ret
    exact ⟨ret_bool (by simp [partB, h]), rfl⟩

/- the hours of a worker -/
def hoursL (L : List Shift) (id : Int) : Int := L.foldl (fun n c => if c.who = id then n + 8 else n) 0
theorem hours_yes {L : List Shift} {k : Nat} {id : Int} (h : k < L.length) (hw : L[k].who = id) : hoursL (L.take (k + 1)) id = hoursL (L.take k) id + 8 := by
  rw [take_snocL L k h, hoursL, List.foldl_append]; simp only [List.foldl_cons, List.foldl_nil, if_pos hw]; rfl
theorem hours_no {L : List Shift} {k : Nat} {id : Int} (h : k < L.length) (hw : ¬ L[k].who = id) : hoursL (L.take (k + 1)) id = hoursL (L.take k) id := by
  rw [take_snocL L k h, hoursL, List.foldl_append]; simp only [List.foldl_cons, List.foldl_nil, if_neg hw]; rfl
theorem hours_bd (id : Int) : ∀ (L : List Shift) (n : Int), n ≤ L.foldl (fun n c => if c.who = id then n + 8 else n) n ∧ L.foldl (fun n c => if c.who = id then n + 8 else n) n ≤ n + 8 * L.length
  | [], n => ⟨Int.le_refl _, by simp⟩
  | c :: r, n => by
    have := hours_bd id r (if c.who = id then n + 8 else n)
    rw [List.foldl_cons, List.length_cons]
    split at this <;> rename_i hc
    · rw [if_pos hc]; omega
    · rw [if_neg hc]; omega
theorem hoursL_bd (L : List Shift) (id : Int) : 0 ≤ hoursL L id ∧ hoursL L id ≤ 8 * L.length := by
  have := hours_bd id L 0
  unfold hoursL; omega

set_option maxHeartbeats 400000 in
theorem hoursOf_any (L : List Shift) (A : Option Addr) (cap : Nat) (id : Int) (w : World) (hr : Rd Shift.enc 4 w.heap.size w A L) (hl : L.length ≤ 1000000) :
    Calls Try.prog 77 #[.slice A L.length cap, .int .i64 id] w fun e w' => e = .returned (.int .i64 (hoursL L id)) ∧ Below w.heap.size w w' := by
  go_enter Try.func77, Try.ntmps77
  go_wp2_with fail
  go_loopw [10, 5] (fun i n wr => ∃ k : Nat, k ≤ L.length ∧ i = .int .i64 k ∧ n = .int .i64 (hoursL (L.take k) id) ∧ Below w.heap.size w wr) (fun i _ _ => L.length - (intOf i).toNat)
  case atStart => exact ⟨0, Nat.zero_le _, rfl, rfl, Below.refl _ _⟩
  case round =>
    obtain ⟨k, hk, rfl, rfl, hbel⟩ := hrel
    by_cases hlt : k < L.length
    · obtain ⟨b, o, rfl, hb, hc⟩ := Shift.rd_at hr (by intro h; subst h; simp at hlt)
      obtain ⟨c0, c1, c2, c3⟩ := hc k _ (List.getElem?_eq_getElem hlt)
      have HY := hide (hours_yes (id := id) hlt)
      have HN := hide (hours_no (id := id) hlt)
      have hbd := hoursL_bd (L.take k) id
      have htl : (L.take k).length ≤ k := List.length_take_le _ _
      generalize L[k] = c at *
      generalize hoursL (L.take k) id = n at *
      replace c0 := below_cell hbel c0
      replace c1 := below_cell hbel c1
      replace c2 := below_cell hbel c2
      replace c3 := below_cell hbel c3
      by_cases hw : c.who = id
      · have hb0 : (c.who == id) = true := by simp [hw]
        have HW := hide hw; clear hw
        go_wp2_with fail
        go_roundw
        case rel => exact ⟨k + 1, by omega, by go_num, by rw [HY.out HW.out], hbel.alloc hbel.size _⟩
        case measure => simp [intOf]; omega
      · have hb0 : (c.who == id) = false := by simp [hw]
        go_wp2_with fail
        go_roundw
        case rel => exact ⟨k + 1, by omega, by go_num, by rw [HN.out hw], hbel.alloc hbel.size _⟩
        case measure => simp [intOf]; omega
    · obtain rfl : k = L.length := by omega
      go_wp2_with fail
      go_ret
      exact ⟨ret_int (by rw [List.take_length]), hbel⟩
set_option maxHeartbeats 400000 in
theorem l22Worked_any (L : List Shift) (A : Option Addr) (cap : Nat) (id : Int) (w : World) (hr : Rd Shift.enc 4 w.heap.size w A L) (hl : L.length ≤ 1000000) :
    Calls Try.prog 80 #[.slice A L.length cap, .int .i64 id] w fun e w' => e = .returned (.int .i64 (hoursL L id)) ∧ w = w' := by
  go_enter Try.func80, Try.ntmps80
  go_wp2_with fail
  go_loop [6, 5] (fun i n => ∃ k : Nat, k ≤ L.length ∧ i = .int .i64 k ∧ n = .int .i64 (hoursL (L.take k) id)) (fun i _ => L.length - (intOf i).toNat)
  case atStart => exact ⟨0, Nat.zero_le _, rfl, rfl⟩
  case round =>
    obtain ⟨k, hk, rfl, rfl⟩ := hrel
    by_cases hlt : k < L.length
    · obtain ⟨b, o, rfl, hb, hc⟩ := Shift.rd_at hr (by intro h; subst h; simp at hlt)
      obtain ⟨c0, c1, c2, c3⟩ := hc k _ (List.getElem?_eq_getElem hlt)
      have HY := hide (hours_yes (id := id) hlt)
      have HN := hide (hours_no (id := id) hlt)
      have hbd := hoursL_bd (L.take k) id
      have htl : (L.take k).length ≤ k := List.length_take_le _ _
      generalize L[k] = c at *
      generalize hoursL (L.take k) id = n at *
      clear hc hr
      by_cases hw : c.who = id
      · have hb0 : (c.who == id) = true := by simp [hw]
        have HW := hide hw; clear hw
        go_wp2_with fail
        go_round
        case rel => exact ⟨k + 1, by omega, by go_num, by rw [HY.out HW.out]⟩
        case measure => simp [intOf]; omega
      · have hb0 : (c.who == id) = false := by simp [hw]
        go_wp2_with fail
        go_round
        case rel => exact ⟨k + 1, by omega, by go_num, by rw [HN.out hw]⟩
        case measure => simp [intOf]; omega
    · obtain rfl : k = L.length := by omega
      go_wp2_with fail
      go_ret
      exact ⟨ret_int (by simp), rfl⟩

/- the index of a worker -/
def isId (id : Int) (c : Worker) : Bool := c.id == id
set_option maxHeartbeats 400000 in
theorem l22Find_any (L : List Worker) (A : Option Addr) (cap : Nat) (id : Int) (w : World) (hr : Rd Worker.enc 4 w.heap.size w A L) (hl : L.length ≤ 1000000) :
    Calls Try.prog 79 #[.slice A L.length cap, .int .i64 id] w fun e w' => e = .returned (.int .i64 (idxF (isId id) L)) ∧ w = w' := by
  go_enter Try.func79, Try.ntmps79
  go_wp2_with fail
  go_loop [5] (fun i => ∃ k : Nat, k ≤ L.length ∧ i = .int .i64 k ∧ Hid (∀ (j : Nat) (d : Worker), j < k → L[j]? = some d → isId id d = false)) (fun i => L.length - (intOf i).toNat)
  case atStart => exact ⟨0, Nat.zero_le _, rfl, hide (fun j d hj => absurd hj (Nat.not_lt_zero j))⟩
  case round =>
    obtain ⟨k, hk, rfl, hn⟩ := hrel
    by_cases hlt : k < L.length
    · obtain ⟨b, o, rfl, hb, hc⟩ := Worker.rd_at hr (by intro h; subst h; simp at hlt)
      have hget := List.getElem?_eq_getElem hlt
      obtain ⟨c0, c1, c2, c3⟩ := hc k _ hget
      generalize L[k] = c at *
      have HG := hide hget; clear hget hc hr
      cases hw : isId id c
      · have hb0 : (c.id == id) = false := hw
        have HW := hide hw; clear hw
        go_wp2_with fail
        go_round
        case rel => exact ⟨k + 1, by omega, by go_num, hide (no_step hn.out HG.out HW.out)⟩
        case measure => simp [intOf]; omega
      · have hb0 : (c.id == id) = true := hw
        have HW := hide hw; clear hw
        go_wp2_with fail
        go_ret
        exact ⟨ret_int (idxF_hit HG.out HW.out hn.out).symm, rfl⟩
    · obtain rfl : k = L.length := by omega
      go_wp2_with fail
      go_ret
      exact ⟨ret_int (idxF_none hn.out).symm, rfl⟩
theorem isId_pred (id : Int) (L : List Worker) (w : World) (B : Nat) (hc : w.cell? ⟨B, 0, none⟩ = some (.int .i64 id)) : Worker.Pred 101 #[.pointer (some ⟨B, 0, none⟩)] (isId id) L w := by
  refine ⟨entersF Try.func101 (by kernel_rfl) rfl, fun W c _ hb => ?_⟩
  have hc1 := below_cell hb hc
  have hc2 : (W.alloc (.cells #[.int .i64 c.id, .string c.name, .int .i64 c.duties, .int .i64 c.hours] 75)).cell? ⟨B, 0, none⟩ = some (.int .i64 id) := below_cell ((Below.refl _ _).alloc (Nat.le_refl _) _) hc1
  show Calls Try.prog 101 #[.agg #[.int .i64 c.id, .string c.name, .int .i64 c.duties, .int .i64 c.hours], .pointer (some ⟨B, 0, none⟩)] W _
  go_enter Try.func101, Try.ntmps101
  go_wp2_with fail
  go_ret
  exact ⟨rfl, (Below.refl _ _).alloc (Nat.le_refl _) _⟩
theorem workerOf_any (L : List Worker) (A : Option Addr) (cap : Nat) (id : Int) (w : World) (hr : Rd Worker.enc 4 w.heap.size w A L) (hl : L.length ≤ maxLen) :
    Calls Try.prog 69 #[.slice A L.length cap, .int .i64 id] w fun e w' => e = .returned (.int .i64 (idxF (isId id) L)) ∧ Below w.heap.size w w' := by
  have hba : Below w.heap.size w (w.alloc (.cells #[.int .i64 id] 3)) := (Below.refl _ _).alloc (Nat.le_refl _) _
  go_enter Try.func69, Try.ntmps69
  go_wp2_with (go_at_call 100; refine (Worker.IndexFunc_any _ _ (isId id) L _ _ _ (hr.later hba) hl (isId_pred id L _ _ (by simp))).mono ?_; rintro e w1 ⟨rfl, hb1⟩)
  go_ret
  exact ⟨rfl, below_new' hb1⟩

/- the order of shifts -/
def cmpS (a b : Shift) : Int := orL [cmpI a.day b.day, cmpI a.part b.part, cmpI a.who b.who]
theorem cmpS_neg (a b : Shift) : cmpS a b < 0 ↔ a.day < b.day ∨ a.day = b.day ∧ (a.part < b.part ∨ a.part = b.part ∧ a.who < b.who) := by
  have h1 := @cmpI_neg a.day b.day
  have h2 := @cmpI_zero a.day b.day
  have h3 := @cmpI_neg a.part b.part
  have h4 := @cmpI_zero a.part b.part
  have h5 := @cmpI_neg a.who b.who
  have h6 := @cmpI_zero a.who b.who
  simp only [cmpS, orL]
  split <;> (try split) <;> (try split) <;> omega
def atS (a : Shift) : Int := 3 * a.day + a.part
theorem l22At_any (c : Shift) (w : World) (h1 : 0 ≤ c.day) (h2 : c.day ≤ 6) (h3 : 0 ≤ c.part) (h4 : c.part ≤ 2) :
    Calls Try.prog 99 #[.agg #[.int .i64 c.day, .int .i64 c.part, .int .i64 c.who, .int .i64 c.duty]] w fun e w' => e = .returned (.int .i64 (atS c)) ∧ Below w.heap.size w w' := by
  go_enter Try.func99, Try.ntmps99
  go_wp2_with fail
  go_ret
  exact ⟨rfl, (Below.refl _ _).alloc (Nat.le_refl _) _⟩
set_option maxRecDepth 100000 in
set_option maxHeartbeats 1000000 in
theorem compareShifts_any (a b : Shift) (w : World) :
    Calls Try.prog 72 #[.agg #[.int .i64 a.day, .int .i64 a.part, .int .i64 a.who, .int .i64 a.duty], .agg #[.int .i64 b.day, .int .i64 b.part, .int .i64 b.who, .int .i64 b.duty]] w fun e w' => e = .returned (.int .i64 (cmpS a b)) ∧ Below w.heap.size w w' := by
  go_enter Try.func72, Try.ntmps72
  go_wp2_with fail
  refine wp_region_tail 15 (by kernel_rfl) (by kernel_rfl) ?_
  simp only [List.take_succ_cons, List.take_zero, List.drop_succ_cons, List.drop_zero]
  repeat (first | still_call (Calls.still (Compare_any _ _ _)) | still_step)
  refine wpStill_nil ?_
  go_wp2_with (go_at_call 102; refine (Or_any [cmpI a.day b.day, cmpI a.part b.part, cmpI a.who b.who] _ 3 _ (by simp) (rd_three (cell_new_d _ _ _ _ 0 _ (by simp) rfl) (cell_new_d _ _ _ _ 1 _ (by simp) rfl) (cell_new_d _ _ _ _ 2 _ (by simp) rfl))).mono ?_; rintro e w1 ⟨rfl, rfl⟩)
  go_ret
  exact ⟨rfl, ((((Below.refl _ _).alloc (Nat.le_refl _) _).alloc (by simp) _).alloc (by simp; omega) _).drew⟩
end Go.Proofs.Ytfaicjlpncidgaa
