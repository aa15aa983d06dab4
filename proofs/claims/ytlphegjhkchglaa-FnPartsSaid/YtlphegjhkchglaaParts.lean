/- Parts: whether one is valid, whether parts are; the program's functions and the reference's. Slices are as the reader gives them. -/
import Derived.Test.YtlphegjhkchglaaStPart
import Derived.Laws.Cover1
namespace Go.Proofs.Ytlphegjhkchglaa
open Go Go.RowKit
def stockB (c : Part) : Bool := wordB c.name && (inB c.have_ 0 500 && (inB c.least 0 500 && (inB c.lead 0 200 && inB c.price 0 100000)))
def stockOk (c : Part) : Bool := stockB c
def partLt (d c : Part) : Bool := Op.bytesLess d.name.toList c.name.toList
abbrev partsB (L : List Part) : Bool := riseB stockOk partLt 10 L
set_option maxHeartbeats 400000 in
theorem isStockPart_any (c : Part) (w : World) (hs : c.Ok) :
    Calls Try.prog 52 #[.agg #[.string c.name, .int .i64 c.have_, .int .i64 c.least, .int .i64 c.lead, .int .i64 c.price]] w fun e w' => e = .returned (.bool (stockB c)) ∧ Below w.heap.size w w' := by
  have hs' : c.name.size ≤ maxLen := hs
  go_enter Try.func52, Try.ntmps52
  go_wp2_with (first | (go_at_call 63; refine (within_any _ _ _ _).mono ?_; rintro e w' ⟨rfl, rfl⟩) | (go_at_call 77; refine (isWord_any _ _ hs').mono ?_; rintro e w' ⟨rfl, rfl⟩))
  all_goals go_ret
  all_goals exact ⟨ret_bool (by simp [stockB, *]), (Below.refl _ _).alloc (Nat.le_refl _) _⟩
theorem isStockPart_is {c : Part} {b : Bool} (h : stockOk c = b) (w : World) (hs : c.Ok) :
    Calls Try.prog 52 #[.agg #[.string c.name, .int .i64 c.have_, .int .i64 c.least, .int .i64 c.lead, .int .i64 c.price]] w fun e w' => e = .returned (.bool b) ∧ Below w.heap.size w w' := h ▸ isStockPart_any c w hs
set_option maxHeartbeats 400000 in
theorem l23One_any (c : Part) (w : World) (hs : c.Ok) :
    Calls Try.prog 76 #[.agg #[.string c.name, .int .i64 c.have_, .int .i64 c.least, .int .i64 c.lead, .int .i64 c.price]] w fun e w' => e = .returned (.bool (stockB c)) ∧ Below w.heap.size w w' := by
  have hs' : c.name.size ≤ maxLen := hs
  go_enter Try.func76, Try.ntmps76
  go_wp2_with (first | (go_at_call 66; refine (l1In_any _ _ _ _).mono ?_; rintro e w' ⟨rfl, rfl⟩) | (go_at_call 91; refine (l2Word_any _ _ hs').mono ?_; rintro e w' ⟨rfl, rfl⟩))
  all_goals go_ret
  all_goals exact ⟨ret_bool (by simp [stockB, *]), (Below.refl _ _).alloc (Nat.le_refl _) _⟩
theorem l23One_is {c : Part} {b : Bool} (h : stockOk c = b) (w : World) (hs : c.Ok) :
    Calls Try.prog 76 #[.agg #[.string c.name, .int .i64 c.have_, .int .i64 c.least, .int .i64 c.lead, .int .i64 c.price]] w fun e w' => e = .returned (.bool b) ∧ Below w.heap.size w w' := h ▸ l23One_any c w hs
set_option maxHeartbeats 2000000 in
theorem AreParts_any (L : List Part) (A : Option Addr) (cap : Nat) (w : World) (hr : Rd Part.enc 5 w.heap.size w A L) (hok : ∀ c ∈ L, c.Ok) (hl : L.length ≤ maxLen) :
    Calls Try.prog 16 #[.slice A L.length cap] w fun e w' => e = .returned (.bool (riseB stockOk partLt 10 L)) ∧ Below w.heap.size w w' := by
  unfold maxLen at hl
  by_cases hL : L = []
  · subst hL
    go_enter Try.func16, Try.ntmps16
    go_wp2_with fail
    go_loop [7] (fun i => i = .int .i64 0) (fun _ => 0)
    case atStart => rfl
    case round =>
      obtain rfl := hrel
      go_wp2_with fail
      go_ret
      exact ⟨rfl, Below.refl _ _⟩
  · obtain ⟨b, o, rfl, hb, hc⟩ := Part.rd_at hr hL
    clear hr
    go_enter Try.func16, Try.ntmps16
    go_wp2_with fail
    go_loopw [7] (fun i wr => ∃ k : Nat, k ≤ L.length ∧ i = .int .i64 k ∧ Hid (∀ j, j < k → riseAt stockOk partLt L j = true) ∧ Below w.heap.size w wr) (fun i _ => L.length - (intOf i).toNat)
    case atStart => exact ⟨0, Nat.zero_le _, rfl, hide (fun j hj => absurd hj (Nat.not_lt_zero j)), Below.refl _ _⟩
    case round =>
      obtain ⟨k, hk, rfl, hp, hbel⟩ := hrel
      by_cases hlt : k < L.length
      · have hget := List.getElem?_eq_getElem hlt
        obtain ⟨c0, c1, c2, c3, c4⟩ := hc k _ hget
        have hokc := hide (hok L[k] (List.getElem_mem hlt))
        generalize L[k] = c at *
        have HG := hide hget; clear hget
        replace c0 := below_cell hbel c0
        replace c1 := below_cell hbel c1
        replace c2 := below_cell hbel c2
        replace c3 := below_cell hbel c3
        replace c4 := below_cell hbel c4
        have E := Part.box_after wr c 62
        have hki : (k : Int) < (L.length : Int) := by omega
        cases h0 : stockOk c
        · have HO := hide h0
          go_wp2_with fail
          refine wp_region_after (by kernel_rfl) (by kernel_rfl) ?_
          repeat (go_big_quiet_step ((first | (go_at_call 52; exact Calls.after (isStockPart_is (by assumption) _ hokc.out)))))
          refine wpQuiet_nil ?_
          rintro _ ⟨⟨w1, hb1⟩, rfl⟩
          go_wp2_with fail
          go_ret
          exact ⟨ret_bool (riseB_no hlt (rise_bad HG.out HO.out)).symm, below_next hbel hb1 (Nat.le_refl _)⟩
        · have HZ0 := True.intro
          have HO := hide h0
          rcases Nat.eq_zero_or_pos k with rfl | hk0
          · have HZ := True.intro
            simp only [Nat.zero_mul, Nat.add_zero] at c0 c1 c2 c3 c4
            go_wp2_with fail
            refine wp_region_after (by kernel_rfl) (by kernel_rfl) ?_
            repeat (go_big_quiet_step ((first | (go_at_call 52; exact Calls.after (isStockPart_is (by assumption) _ hokc.out)))))
            refine wpQuiet_nil ?_
            rintro _ ⟨⟨w1, hb1⟩, rfl⟩
            go_wp2_with fail
            go_roundw
            case rel => exact ⟨0 + 1, by omega, by go_num, hide (upto_step hp.out (rise_first HG.out HO.out)), below_next hbel hb1 (Nat.le_refl _)⟩
            case measure => simp [intOf]; omega
          · have hgd := List.getElem?_eq_getElem (show k - 1 < L.length by omega)
            obtain ⟨p0, p1, p2, p3, p4⟩ := hc (k - 1) _ hgd
            generalize L[k - 1] = d at *
            have HD := hide hgd; clear hgd
            replace p0 := after_alloc (.cells #[.string c.name, .int .i64 c.have_, .int .i64 c.least, .int .i64 c.lead, .int .i64 c.price] 62) (below_cell hbel p0)
            replace p1 := after_alloc (.cells #[.string c.name, .int .i64 c.have_, .int .i64 c.least, .int .i64 c.lead, .int .i64 c.price] 62) (below_cell hbel p1)
            replace p2 := after_alloc (.cells #[.string c.name, .int .i64 c.have_, .int .i64 c.least, .int .i64 c.lead, .int .i64 c.price] 62) (below_cell hbel p2)
            replace p3 := after_alloc (.cells #[.string c.name, .int .i64 c.have_, .int .i64 c.least, .int .i64 c.lead, .int .i64 c.price] 62) (below_cell hbel p3)
            replace p4 := after_alloc (.cells #[.string c.name, .int .i64 c.have_, .int .i64 c.least, .int .i64 c.lead, .int .i64 c.price] 62) (below_cell hbel p4)
            have hk1 : (0 : Int) < (k : Int) := by omega
            cases hlow : partLt d c
            · have HL := hide hlow
              have hb0 : Op.bytesLess d.name.toList c.name.toList = false := hlow
              clear hlow
              go_wp2_with fail
              refine wp_region_after (by kernel_rfl) (by kernel_rfl) ?_
              repeat (go_big_quiet_step ((first | (go_at_call 52; exact Calls.after (isStockPart_is (by assumption) _ hokc.out)))))
              refine wpQuiet_nil ?_
              rintro _ ⟨⟨w1, hb1⟩, rfl⟩
              go_wp2_with fail
              go_ret
              exact ⟨ret_bool (riseB_no hlt (rise_low HG.out HD.out hk0 HL.out)).symm, below_next hbel hb1 (Nat.le_refl _)⟩
            · have HL := hide hlow
              have hb0 : Op.bytesLess d.name.toList c.name.toList = true := hlow
              clear hlow
              go_wp2_with fail
              refine wp_region_after (by kernel_rfl) (by kernel_rfl) ?_
              repeat (go_big_quiet_step ((first | (go_at_call 52; exact Calls.after (isStockPart_is (by assumption) _ hokc.out)))))
              refine wpQuiet_nil ?_
              rintro _ ⟨⟨w1, hb1⟩, rfl⟩
              go_wp2_with fail
              go_roundw
              case rel => exact ⟨k + 1, by omega, by go_num, hide (upto_step hp.out (rise_next HG.out HD.out HO.out HL.out)), below_next hbel hb1 (Nat.le_refl _)⟩
              case measure => simp [intOf]; omega
      · go_wp2_with fail
        go_ret
        exact ⟨ret_bool (by rw [riseB_all (by omega) hp.out]; simp; omega), hbel⟩

theorem AreParts_is {L : List Part} {b : Bool} (h : partsB L = b) (A : Option Addr) (cap : Nat) (w : World) (hr : Rd Part.enc 5 w.heap.size w A L) (hok : ∀ c ∈ L, c.Ok) (hl : L.length ≤ maxLen) :
    Calls Try.prog 16 #[.slice A L.length cap] w fun e w' => e = .returned (.bool b) ∧ Below w.heap.size w w' := h ▸ AreParts_any L A cap w hr hok hl
set_option maxHeartbeats 2000000 in
theorem l23Good_any (L : List Part) (A : Option Addr) (cap : Nat) (w : World) (hr : Rd Part.enc 5 w.heap.size w A L) (hok : ∀ c ∈ L, c.Ok) (hl : L.length ≤ maxLen) :
    Calls Try.prog 50 #[.slice A L.length cap] w fun e w' => e = .returned (.bool (riseB stockOk partLt 10 L)) ∧ Below w.heap.size w w' := by
  unfold maxLen at hl
  by_cases hL : L = []
  · subst hL
    go_enter Try.func50, Try.ntmps50
    go_wp2_with fail
    go_loop [3] (fun i => i = .int .i64 0) (fun _ => 0)
    case atStart => rfl
    case round =>
      obtain rfl := hrel
      go_wp2_with fail
      go_ret
      exact ⟨rfl, Below.refl _ _⟩
  · obtain ⟨b, o, rfl, hb, hc⟩ := Part.rd_at hr hL
    clear hr
    go_enter Try.func50, Try.ntmps50
    go_wp2_with fail
    go_loopw [3] (fun i wr => ∃ k : Nat, k ≤ L.length ∧ i = .int .i64 k ∧ Hid (∀ j, j < k → riseAt stockOk partLt L j = true) ∧ Below w.heap.size w wr) (fun i _ => L.length - (intOf i).toNat)
    case atStart => exact ⟨0, Nat.zero_le _, rfl, hide (fun j hj => absurd hj (Nat.not_lt_zero j)), Below.refl _ _⟩
    case round =>
      obtain ⟨k, hk, rfl, hp, hbel⟩ := hrel
      by_cases hlt : k < L.length
      · have hget := List.getElem?_eq_getElem hlt
        obtain ⟨c0, c1, c2, c3, c4⟩ := hc k _ hget
        have hokc := hide (hok L[k] (List.getElem_mem hlt))
        generalize L[k] = c at *
        have HG := hide hget; clear hget
        replace c0 := after_cell (below_cell hbel c0)
        replace c1 := after_cell (below_cell hbel c1)
        replace c2 := after_cell (below_cell hbel c2)
        replace c3 := after_cell (below_cell hbel c3)
        replace c4 := after_cell (below_cell hbel c4)
        have hki : (k : Int) < (L.length : Int) := by omega
        cases h0 : stockOk c
        · have HO := hide h0
          go_wp2_with fail
          refine wp_region_after (by kernel_rfl) (by kernel_rfl) ?_
          repeat (go_big_quiet_step ((first | (go_at_call 76; exact Calls.after (l23One_is (by assumption) _ hokc.out)))))
          refine wpQuiet_nil ?_
          rintro _ ⟨⟨w1, hb1⟩, rfl⟩
          go_wp2_with fail
          go_ret
          exact ⟨ret_bool (riseB_no hlt (rise_bad HG.out HO.out)).symm, below_step hbel hb1 (Nat.le_refl _)⟩
        · have HZ0 := True.intro
          have HO := hide h0
          rcases Nat.eq_zero_or_pos k with rfl | hk0
          · have HZ := True.intro
            simp only [Nat.zero_mul, Nat.add_zero] at c0 c1 c2 c3 c4
            go_wp2_with fail
            refine wp_region_after (by kernel_rfl) (by kernel_rfl) ?_
            repeat (go_big_quiet_step ((first | (go_at_call 76; exact Calls.after (l23One_is (by assumption) _ hokc.out)))))
            refine wpQuiet_nil ?_
            rintro _ ⟨⟨w1, hb1⟩, rfl⟩
            go_wp2_with fail
            go_roundw
            case rel => exact ⟨0 + 1, by omega, by go_num, hide (upto_step hp.out (rise_first HG.out HO.out)), below_step hbel hb1 (Nat.le_refl _)⟩
            case measure => simp [intOf]; omega
          · have hgd := List.getElem?_eq_getElem (show k - 1 < L.length by omega)
            obtain ⟨p0, p1, p2, p3, p4⟩ := hc (k - 1) _ hgd
            generalize L[k - 1] = d at *
            have HD := hide hgd; clear hgd
            replace p0 := after_cell (below_cell hbel p0)
            replace p1 := after_cell (below_cell hbel p1)
            replace p2 := after_cell (below_cell hbel p2)
            replace p3 := after_cell (below_cell hbel p3)
            replace p4 := after_cell (below_cell hbel p4)
            have hk1 : (0 : Int) < (k : Int) := by omega
            cases hlow : partLt d c
            · have HL := hide hlow
              have hb0 : Op.bytesLess d.name.toList c.name.toList = false := hlow
              clear hlow
              go_wp2_with fail
              refine wp_region_after (by kernel_rfl) (by kernel_rfl) ?_
              repeat (go_big_quiet_step ((first | (go_at_call 76; exact Calls.after (l23One_is (by assumption) _ hokc.out)))))
              refine wpQuiet_nil ?_
              rintro _ ⟨⟨w1, hb1⟩, rfl⟩
              go_wp2_with fail
              go_ret
              exact ⟨ret_bool (riseB_no hlt (rise_low HG.out HD.out hk0 HL.out)).symm, below_step hbel hb1 (Nat.le_refl _)⟩
            · have HL := hide hlow
              have hb0 : Op.bytesLess d.name.toList c.name.toList = true := hlow
              clear hlow
              go_wp2_with fail
              refine wp_region_after (by kernel_rfl) (by kernel_rfl) ?_
              repeat (go_big_quiet_step ((first | (go_at_call 76; exact Calls.after (l23One_is (by assumption) _ hokc.out)))))
              refine wpQuiet_nil ?_
              rintro _ ⟨⟨w1, hb1⟩, rfl⟩
              go_wp2_with fail
              go_roundw
              case rel => exact ⟨k + 1, by omega, by go_num, hide (upto_step hp.out (rise_next HG.out HD.out HO.out HL.out)), below_step hbel hb1 (Nat.le_refl _)⟩
              case measure => simp [intOf]; omega
      · go_wp2_with fail
        go_ret
        exact ⟨ret_bool (by rw [riseB_all (by omega) hp.out]; simp; omega), hbel⟩

theorem l23Good_is {L : List Part} {b : Bool} (h : partsB L = b) (A : Option Addr) (cap : Nat) (w : World) (hr : Rd Part.enc 5 w.heap.size w A L) (hok : ∀ c ∈ L, c.Ok) (hl : L.length ≤ maxLen) :
    Calls Try.prog 50 #[.slice A L.length cap] w fun e w' => e = .returned (.bool b) ∧ Below w.heap.size w w' := h ▸ l23Good_any L A cap w hr hok hl
theorem AreParts_spec (L : List Part) (A : Option Addr) (cap : Nat) (w : World) (hr : Rd Part.enc 5 w.heap.size w A L) (hok : ∀ c ∈ L, c.Ok) (hl : L.length ≤ maxLen) :
    Calls Try.prog 14 #[.slice A L.length cap] w fun e w' => e = .returned (.bool (partsB L)) ∧ Below w.heap.size w w' := by
  go_enter Try.func14, Try.ntmps14
  go_wp2_with (go_at_call 50; refine (l23Good_any L A cap _ hr hok hl).mono ?_; rintro e w' ⟨rfl, hb⟩)
  go_ret
  exact ⟨rfl, hb⟩
end Go.Proofs.Ytlphegjhkchglaa
