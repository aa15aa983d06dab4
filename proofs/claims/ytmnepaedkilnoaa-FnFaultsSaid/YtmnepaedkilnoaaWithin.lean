/- The events of some times: both packages. Slices are as the reader gives them. -/
import Derived.Test.YtmnepaedkilnoaaRec
import Derived.Test.YtmnepaedkilnoaaDlEvent
import Derived.Test.YtmnepaedkilnoaaGrid
namespace Go.Proofs.Ytmnepaedkilnoaa
open Go Go.RowKit
set_option linter.unusedVariables false
def inT (lo hi : Int) (c : Event) : Bool := inB c.time lo hi
def outT (lo hi : Int) (c : Event) : Bool := !inT lo hi c
def withinB (R : List Event) (lo hi : Int) : Bool := recB R && decide (lo ≤ hi)
def withinL (R : List Event) (lo hi : Int) : List Event := R.filter (inT lo hi)
def withinV (R : List Event) (lo hi : Int) : List Event := if withinB R lo hi then withinL R lo hi else []
theorem withinV_len (R : List Event) (lo hi : Int) : (withinV R lo hi).length ≤ 30 := by
  unfold withinV
  split
  · rename_i h
    simp only [withinB, Bool.and_eq_true] at h
    exact Nat.le_trans (List.length_filter_le _ _) (riseB_len h.1)
  · exact Nat.zero_le _
theorem out_filter (R : List Event) (lo hi : Int) : (R.filter fun c => !outT lo hi c) = withinL R lo hi := by
  unfold withinL outT
  congr 1
  funext c
  simp
theorem withinL_no {R : List Event} {lo hi : Int} {k : Nat} {c : Event} (hk : R[k]? = some c) (h : inB c.time lo hi = false) : withinL (R.take (k + 1)) lo hi = withinL (R.take k) lo hi := by
  obtain ⟨hlt, rfl⟩ := List.getElem?_eq_some_iff.1 hk
  rw [take_snocL R k hlt]
  have h2 : inT lo hi R[k] = false := h
  simp only [withinL, List.filter_append, List.filter_cons, List.filter_nil, h2, Bool.false_eq_true, if_false, List.append_nil]
theorem withinL_yes {R : List Event} {lo hi : Int} {k : Nat} {c : Event} (hk : R[k]? = some c) (h : inB c.time lo hi = true) : withinL (R.take (k + 1)) lo hi = withinL (R.take k) lo hi ++ [c] := by
  obtain ⟨hlt, rfl⟩ := List.getElem?_eq_some_iff.1 hk
  rw [take_snocL R k hlt]
  have h2 : inT lo hi R[k] = true := h
  simp only [withinL, List.filter_append, List.filter_cons, List.filter_nil, h2, if_true]
theorem out_pred (lo hi : Int) (L : List Event) (low : Nat) (w : World) (B1 B2 : Nat) (h1 : B1 < low) (h2 : B2 < low)
    (hc : w.cell? ⟨B1, 0, none⟩ = some (.int .i64 lo)) (ha : w.cell? ⟨B2, 0, none⟩ = some (.int .i64 hi)) :
    Event.PredB 66 #[.pointer (some ⟨B1, 0, none⟩), .pointer (some ⟨B2, 0, none⟩)] (outT lo hi) L low w := by
  refine ⟨entersF Try.func66 (by kernel_rfl) rfl, fun W c _ hb => ?_⟩
  have g1 : W.cell? ⟨B1, 0, none⟩ = some (.int .i64 lo) := (hb.cell h1).trans hc
  have g2 : W.cell? ⟨B2, 0, none⟩ = some (.int .i64 hi) := (hb.cell h2).trans ha
  have q1 := below_cell ((Below.refl W.heap.size W).alloc (Nat.le_refl _) (.cells #[.int .i64 c.time, .int .i64 c.code] 58)) g1
  have q2 := below_cell ((Below.refl W.heap.size W).alloc (Nat.le_refl _) (.cells #[.int .i64 c.time, .int .i64 c.code] 58)) g2
  show Calls Try.prog 66 #[.agg #[.int .i64 c.time, .int .i64 c.code], .pointer (some ⟨B1, 0, none⟩), .pointer (some ⟨B2, 0, none⟩)] W _
  go_enter Try.func66, Try.ntmps66
  go_wp2_with (go_at_call 56; refine (within_any _ _ _ _).mono ?_; rintro e w1 ⟨rfl, rfl⟩)
  go_ret
  exact ⟨ret_bool (by simp [outT, inT]), (Below.refl _ _).alloc (Nat.le_refl _) _⟩
set_option maxHeartbeats 1000000 in
theorem EventsWithin_any (R : List Event) (lo hi : Int) (A : Option Addr) (cap : Nat) (w : World) (hr : Rd Event.enc 2 w.heap.size w A R) (hok : ∀ c ∈ R, c.Ok) (hl : R.length ≤ maxLen) :
    Calls Try.prog 25 #[.slice A R.length cap, .int .i64 lo, .int .i64 hi] w (Gives (withinV R lo hi).length (fun v => .tuple #[v, .bool (withinB R lo hi)]) (fun w' v => Own Event.enc 2 58 w.heap.size w' v (withinV R lo hi)) w) := by
  have hba : Below w.heap.size w ((w.alloc (.cells #[.int .i64 lo] 3)).alloc (.cells #[.int .i64 hi] 3)) := ((Below.refl _ _).alloc (Nat.le_refl _) _).alloc (by simp) _
  have x1 : ((w.alloc (.cells #[.int .i64 lo] 3)).alloc (.cells #[.int .i64 hi] 3)).cell? ⟨w.heap.size, 0, none⟩ = some (.int .i64 lo) := by simp
  have x2 : ((w.alloc (.cells #[.int .i64 lo] 3)).alloc (.cells #[.int .i64 hi] 3)).cell? ⟨w.heap.size + 1, 0, none⟩ = some (.int .i64 hi) := by simp
  cases hg : recB R
  · have HB := hide (show withinB R lo hi = false by simp [withinB, hg])
    go_enter Try.func25, Try.ntmps25
    go_wp2_with (go_at_call 17; refine (IsRecordOf_is hg _ _ _ (hr.later hba) hok hl).mono ?_; rintro e w1 ⟨rfl, hb1⟩; have y1 := below_cell hb1 x1; have y2 := below_cell hb1 x2)
    go_ret2
    exact ⟨none, 0, by simp [withinV, HB.out], by simp [withinV, HB.out]; exact own_nil _ _ _, below_step hba hb1 (Nat.le_refl _)⟩
  · have hlen := riseB_len hg
    by_cases hlh : hi < lo
    · have HB := hide (show withinB R lo hi = false by simp [withinB]; intro _; omega)
      have HG := hide hg; clear hg
      go_enter Try.func25, Try.ntmps25
      go_wp2_with (go_at_call 17; refine (IsRecordOf_is HG.out _ _ _ (hr.later hba) hok hl).mono ?_; rintro e w1 ⟨rfl, hb1⟩; have y1 := below_cell hb1 x1; have y2 := below_cell hb1 x2)
      go_ret2
      exact ⟨none, 0, by simp [withinV, HB.out], by simp [withinV, HB.out]; exact own_nil _ _ _, below_step hba hb1 (Nat.le_refl _)⟩
    · have HB := hide (show withinB R lo hi = true by simp [withinB, hg]; omega)
      have HG := hide hg; clear hg
      have hle : lo ≤ hi := by omega
      have HV := hide (show withinV R lo hi = R.filter fun c => !outT lo hi c by rw [out_filter]; simp [withinV, HB.out])
      have hsz' : w.heap.size + 2 ≤ ((w.alloc (.cells #[.int .i64 lo] 3)).alloc (.cells #[.int .i64 hi] 3)).heap.size := by simp
      have hfl : (R.filter fun c => !outT lo hi c).length ≤ R.length := List.length_filter_le _ _
      go_enter Try.func25, Try.ntmps25
      go_wp2_with (first | (go_at_call 17; refine (IsRecordOf_is HG.out _ _ _ (hr.later hba) hok hl).mono ?_; rintro e w1 ⟨rfl, hb1⟩; have y1 := below_cell hb1 x1; have y2 := below_cell hb1 x2) | (go_at_call 65; refine (Event.Clone_any R _ _ _ ((hr.later hba).later hb1) (by omega)).mono ?_; rintro e w3 ⟨A', c', rfl, ho, hb3⟩) | (go_at_call 64; refine (Event.DeleteFunc_any _ _ (outT lo hi) R _ _ w1.heap.size _ ho hb3.size (by omega) (out_pred lo hi R w1.heap.size _ w.heap.size (w.heap.size + 1) (by have := hb1.size; omega) (by have := hb1.size; omega) (below_cell hb3 y1) (below_cell hb3 y2))).mono ?_; rintro e w4 ⟨rfl, ho4, hb4⟩))
      go_ret2
      rw [HV.out, HB.out]
      exact ⟨_, _, rfl, Own.mono ho4 (by have := hb1.size; omega), below_step (below_step hba hb1 (Nat.le_refl _)) (hb3.trans hb4) (Nat.le_refl _)⟩
set_option maxHeartbeats 1000000 in
theorem EventsWithin_spec (R : List Event) (lo hi : Int) (A : Option Addr) (cap : Nat) (w : World) (hr : Rd Event.enc 2 w.heap.size w A R) (hok : ∀ c ∈ R, c.Ok) (hl : R.length ≤ maxLen) :
    Calls Try.prog 24 #[.slice A R.length cap, .int .i64 lo, .int .i64 hi] w (Gives (withinV R lo hi).length (fun v => .tuple #[v, .bool (withinB R lo hi)]) (fun w' v => Own Event.enc 2 58 w.heap.size w' v (withinV R lo hi)) w) := by
  have hba : Below w.heap.size w (w.alloc (.cells #[] 58)) := (Below.refl _ _).alloc (Nat.le_refl _) _
  have hown0 : Own Event.enc 2 58 w.heap.size (w.alloc (.cells #[] 58)) (.slice (some ⟨w.heap.size, 0, none⟩) 0 0) [] := own_empty (Nat.le_refl _)
  cases hg : recB R
  · have HB := hide (show withinB R lo hi = false by simp [withinB, hg])
    go_enter Try.func24, Try.ntmps24
    go_wp2_with (go_at_call 54; refine (l20Record_is hg _ _ _ (hr.later hba) hok hl).mono ?_; rintro e w1 ⟨rfl, hb1⟩)
    go_ret2
    rw [show withinV R lo hi = [] by simp [withinV, HB.out], HB.out]
    exact ⟨some ⟨w.heap.size, 0, none⟩, 0, rfl, Own.below hown0 hb1, below_step hba hb1 (Nat.le_refl _)⟩
  · have hlen := riseB_len hg
    by_cases hlh : hi < lo
    · have HB := hide (show withinB R lo hi = false by simp [withinB]; intro _; omega)
      have HG := hide hg; clear hg
      go_enter Try.func24, Try.ntmps24
      go_wp2_with (go_at_call 54; refine (l20Record_is HG.out _ _ _ (hr.later hba) hok hl).mono ?_; rintro e w1 ⟨rfl, hb1⟩)
      go_ret2
      rw [show withinV R lo hi = [] by simp [withinV, HB.out], HB.out]
      exact ⟨some ⟨w.heap.size, 0, none⟩, 0, rfl, Own.below hown0 hb1, below_step hba hb1 (Nat.le_refl _)⟩
    · have HB := hide (show withinB R lo hi = true by simp [withinB, hg]; omega)
      have HG := hide hg; clear hg
      have hle : lo ≤ hi := by omega
      have HV := hide (show withinV R lo hi = withinL R lo hi by simp [withinV, HB.out])
      go_enter Try.func24, Try.ntmps24
      go_wp2_with (go_at_call 54; refine (l20Record_is HG.out _ _ _ (hr.later hba) hok hl).mono ?_; rintro e w1 ⟨rfl, hb1⟩)
      go_loopw [9, 8] (fun i m wr => ∃ (k : Nat) (A' : Option Addr) (cap' : Nat), k ≤ R.length ∧ i = .int .i64 k ∧ m = .slice A' (withinL (R.take k) lo hi).length cap' ∧ Own Event.enc 2 58 w.heap.size wr (.slice A' (withinL (R.take k) lo hi).length cap') (withinL (R.take k) lo hi) ∧ Below w.heap.size w wr) (fun i _ _ => R.length - (intOf i).toNat)
      case atStart => exact ⟨0, _, _, Nat.zero_le _, rfl, rfl, Own.below hown0 hb1, below_step hba hb1 (Nat.le_refl _)⟩
      case round =>
        clear hown0
        obtain ⟨k, A', cap', hk, rfl, rfl, hown, hbel⟩ := hrel
        by_cases hlt : k < R.length
        · obtain ⟨b, o, rfl, hb, hc⟩ := Event.rd_at hr (by intro h; subst h; simp at hlt)
          have hget := List.getElem?_eq_getElem hlt
          obtain ⟨x0, x1⟩ := hc k _ hget
          have HN := hide (@withinL_no R lo hi k _ hget); have HY := hide (@withinL_yes R lo hi k _ hget)
          have hul : (withinL (R.take k) lo hi).length ≤ 30 := by have := List.length_filter_le (inT lo hi) (R.take k); rw [List.length_take] at this; unfold withinL; omega
          generalize R[k] = c at *
          clear hc hget
          replace x0 := below_cell hbel x0
          replace x1 := below_cell hbel x1
          generalize withinL (R.take k) lo hi = U at *
          have hki : (k : Int) < (R.length : Int) := by omega
          have hwb := hbel.size
          cases hin : inB c.time lo hi
          · have HI := hide hin
            go_wp2_with (go_at_call 63; refine (l1In_is hin _).mono ?_; rintro e w2 ⟨rfl, rfl⟩)
            go_roundw
            case rel => exact ⟨k + 1, A', cap', by omega, by go_num, by rw [HN.out HI.out], by rw [HN.out HI.out]; exact hown, hbel⟩
            case measure => simp [intOf]; omega
          · have HI := hide hin
            go_wp2_with (first | (go_at_call 63; refine (l1In_is hin _).mono ?_; rintro e w2 ⟨rfl, rfl⟩) | (at_builtin; refine wpList_push _ rfl (.tmp 34) (.tmp 39) 25 58 rfl Try.underlying25 Event.infoE rfl (by omega) (by omega) Event.enc_len Event.enc_one w.heap.size A' cap' U c _ rfl rfl _ rfl rfl hown (by omega) (by omega) ?_; intro A2 cap2 w3 ho3 hb3))
            go_roundw
            case rel => exact ⟨k + 1, A2, cap2, by omega, by go_num, sl_eq (by rw [HY.out HI.out]; simp), by rw [HY.out HI.out, List.length_append]; exact ho3, hbel.trans hb3⟩
            case measure => simp [intOf]; omega
        · obtain rfl : k = R.length := by omega
          rw [List.take_length] at hown ⊢
          go_wp2_with fail
          go_ret2
          rw [HV.out, HB.out]
          exact ⟨A', cap', rfl, hown, hbel⟩
end Go.Proofs.Ytmnepaedkilnoaa
