/- The first match of a pattern and the time at which one is detected: both packages. The record is a record, the pattern a pattern. -/
import Derived.Test.YtmnepaedkilnoaaMatchS
namespace Go.Proofs.Ytmnepaedkilnoaa
open Go Go.RowKit
set_option linter.unusedVariables false
theorem neq_nil (W : World) : (binOp .neq 45 (.slice none 0 0) (.slice none 0 0)).run Try.prog W = .ok (.bool false) W := by
  have := run_neq_slice_nil_any (P := Try.prog) W 45 3 none 0 0 0 0 Try.underlying45
  exact this
theorem neq_some (W : World) (g n c : Nat) : (binOp .neq 45 (.slice (some ⟨g, 0, none⟩) n c) (.slice none 0 0)).run Try.prog W = .ok (.bool true) W := by
  have := run_neq_slice_nil_any (P := Try.prog) W 45 3 (some ⟨g, 0, none⟩) n c 0 0 Try.underlying45
  exact this
theorem givesM_none {l : List Int} {w w' : World} {e : Ending} (h : GivesM l w e w') (hl : l = []) : e = .returned (.slice none 0 0) ∧ Below w.heap.size w w' := by
  obtain ⟨A, cap, rfl, _, hn, _, hb⟩ := h
  obtain ⟨rfl, rfl⟩ := hn hl
  subst hl
  exact ⟨rfl, hb⟩
theorem givesM_some {l : List Int} {w w' : World} {e : Ending} (h : GivesM l w e w') (hl : l ≠ []) : ∃ g cap, e = .returned (.slice (some ⟨g, 0, none⟩) l.length cap) ∧ Own encI 1 3 w.heap.size w' (.slice (some ⟨g, 0, none⟩) l.length cap) l ∧ Below w.heap.size w w' := by
  obtain ⟨A, cap, rfl, ho, _, hs, hb⟩ := h
  rcases ho.2 with ⟨hv, h0⟩ | ⟨g, c, cur, hv, _⟩
  · exact absurd (List.eq_nil_of_length_eq_zero h0) hl
  · injection hv with hv
    subst hv
    exact ⟨g, cap, rfl, ho, hb⟩
theorem givesE_some {l : List Int} {w w' : World} {e : Ending} (h : GivesE l w e w') (hl : l ≠ []) : ∃ g cap, e = .returned (.slice (some ⟨g, 0, none⟩) l.length cap) ∧ Own encI 1 3 w.heap.size w' (.slice (some ⟨g, 0, none⟩) l.length cap) l ∧ Below w.heap.size w w' := by
  obtain ⟨A, cap, rfl, ho, hb⟩ := h
  rcases ho.2 with ⟨hv, h0⟩ | ⟨g, c, cur, hv, _⟩
  · exact absurd (List.eq_nil_of_length_eq_zero h0) hl
  · injection hv with hv
    subst hv
    exact ⟨g, cap, rfl, ho, hb⟩
theorem givesE_none {l : List Int} {w w' : World} {e : Ending} (h : GivesE l w e w') (hl : l = []) : ∃ A cap, e = .returned (.slice A 0 cap) ∧ Below w.heap.size w w' := by
  obtain ⟨A, cap, rfl, ho, hb⟩ := h
  subst hl
  exact ⟨A, cap, rfl, hb⟩
theorem givesE_nil {l : List Int} {w w' : World} {e : Ending} (h : GivesE l w e w') (hl : l = []) : ∃ A cap, e = .returned (.slice A 0 cap) ∧ Own encI 1 3 w.heap.size w' (.slice A 0 cap) [] ∧ Below w.heap.size w w' := by
  obtain ⟨A, cap, rfl, ho, hb⟩ := h
  subst hl
  exact ⟨A, cap, rfl, ho, hb⟩
theorem len_pos {l : List Int} (h : l ≠ []) : 0 < l.length := List.length_pos_iff.2 h
theorem detStep_nil {m : Int} {R : List Event} {l : List Int} (h : l = []) : detStep m R l = m := by simp [detStep, h]
theorem detStep_new {m t : Int} {R : List Event} {l : List Int} (h : l ≠ []) (ht : endT R l = t) (hc : m < 0 ∨ t < m) : detStep m R l = t := by subst ht; simp only [detStep]; rw [if_neg h, if_pos hc]
theorem detStep_old {m t : Int} {R : List Event} {l : List Int} (h : l ≠ []) (ht : endT R l = t) (hc : ¬ (m < 0 ∨ t < m)) : detStep m R l = m := by subst ht; simp only [detStep]; rw [if_neg h, if_neg hc]

set_option maxRecDepth 100000 in
set_option maxHeartbeats 2000000 in
theorem firstMatch_p (p : Pat) (ca : Option Addr) (cc : Nat) (R : List Event) (A : Option Addr) (cap : Nat) (w : World) (hR : recB R = true) (hp : patB p = true) (hr : Rd Event.enc 2 w.heap.size w A R) (hd : Rd encI 1 w.heap.size w ca p.codes) :
    Calls Try.prog 73 #[.agg #[.int .i64 p.fault, .slice ca p.codes.length cc, .int .i64 p.within], .slice A R.length cap] w (GivesM (mFirst R p) w) := by
  have hlen := riseB_len hR
  have HR := hide hR; have HP := hide hp; clear hR hp
  have hba : Below w.heap.size w (w.alloc (.cells #[.int .i64 p.fault, .slice ca p.codes.length cc, .int .i64 p.within] 62)) := (Below.refl _ _).alloc (Nat.le_refl _) _
  obtain ⟨hx0, _⟩ := CF.new w #[.int .i64 p.fault, .slice ca p.codes.length cc, .int .i64 p.within] 62 w.heap.size 0 _ rfl rfl
  obtain ⟨hx1, _⟩ := CF.new w #[.int .i64 p.fault, .slice ca p.codes.length cc, .int .i64 p.within] 62 w.heap.size 1 _ rfl rfl
  obtain ⟨hx2, _⟩ := CF.new w #[.int .i64 p.fault, .slice ca p.codes.length cc, .int .i64 p.within] 62 w.heap.size 2 _ rfl rfl
  go_enter Try.func73, Try.ntmps73
  go_wp2_with fail
  go_loopw [9] (fun x wr => ∃ k : Nat, k ≤ R.length ∧ x = .int .i64 k ∧ Hid (∀ j, j < k → mFrom R p j = []) ∧ Below (w.heap.size + 1) (w.alloc (.cells #[.int .i64 p.fault, .slice ca p.codes.length cc, .int .i64 p.within] 62)) wr) (fun x _ => R.length - (intOf x).toNat)
  case atStart => exact ⟨0, Nat.zero_le _, rfl, hide (fun j hj => absurd hj (Nat.not_lt_zero j)), Below.refl _ _⟩
  case round =>
    obtain ⟨k, hk, rfl, hn, hbel⟩ := hrel
    have hbw : Below w.heap.size w wr := hba.trans (hbel.mono (by omega))
    have hws : w.heap.size + 1 ≤ wr.heap.size := by have := hbel.size; simpa using this
    have x0 := (hbel.cell (p := ⟨w.heap.size, 0, none⟩) (by simp)).trans hx0
    have x1 := (hbel.cell (p := ⟨w.heap.size, 1, none⟩) (by simp)).trans hx1
    have x2 := (hbel.cell (p := ⟨w.heap.size, 2, none⟩) (by simp)).trans hx2
    clear hx0 hx1 hx2 hba
    have R1 := hide (hr.later hbw)
    have D1 := hide (hd.later hbw)
    by_cases hlt : k < R.length
    · by_cases hm : mFrom R p k = []
      · have HMN := hide hm; clear hm
        have hq0 := neq_nil
        go_wp2_with (go_at_call 87; refine (matchFrom_p p ca cc R _ cap k _ hlt HR.out HP.out R1.out D1.out).mono ?_; intro e w1 hq; have hq := givesM_none hq HMN.out; obtain ⟨rfl, hb1⟩ := hq)
        go_roundw
        case rel => exact ⟨k + 1, by omega, by go_num, hide (upto_nil hn.out HMN.out), hbel.trans (hb1.mono hws)⟩
        case measure => simp [intOf]; omega
      · have HMN := hide hm; clear hm
        have hpos := len_pos HMN.out
        have hq0 := neq_some
        go_wp2_with (go_at_call 87; refine (matchFrom_p p ca cc R _ cap k _ hlt HR.out HP.out R1.out D1.out).mono ?_; intro e w1 hq; obtain ⟨g, cap1, rfl, ho, hb1⟩ := givesM_some hq HMN.out)
        go_ret
        rw [mFirst_hit hlt hn.out HMN.out]
        exact ⟨_, cap1, rfl, ho.mono hbw.size, fun h => absurd h HMN.out, fun _ => by simp, below_step hbw hb1 (Nat.le_refl _)⟩
    · obtain rfl : k = R.length := by omega
      go_wp2_with fail
      go_ret
      exact givesM_nil (mFirst_none hn.out) hbw
set_option maxRecDepth 100000 in
set_option maxHeartbeats 2000000 in
theorem l20First_p (p : Pat) (ca : Option Addr) (cc : Nat) (R : List Event) (A : Option Addr) (cap : Nat) (w : World) (hR : recB R = true) (hp : patB p = true) (hr : Rd Event.enc 2 w.heap.size w A R) (hd : Rd encI 1 w.heap.size w ca p.codes) :
    Calls Try.prog 72 #[.slice A R.length cap, .agg #[.int .i64 p.fault, .slice ca p.codes.length cc, .int .i64 p.within]] w (GivesE (mFirst R p) w) := by
  have hlen := riseB_len hR
  have HR := hide hR; have HP := hide hp; clear hR hp
  have hba : Below w.heap.size w (w.alloc (.cells #[.int .i64 p.fault, .slice ca p.codes.length cc, .int .i64 p.within] 62)) := (Below.refl _ _).alloc (Nat.le_refl _) _
  obtain ⟨hx0, _⟩ := CF.new w #[.int .i64 p.fault, .slice ca p.codes.length cc, .int .i64 p.within] 62 w.heap.size 0 _ rfl rfl
  obtain ⟨hx1, _⟩ := CF.new w #[.int .i64 p.fault, .slice ca p.codes.length cc, .int .i64 p.within] 62 w.heap.size 1 _ rfl rfl
  obtain ⟨hx2, _⟩ := CF.new w #[.int .i64 p.fault, .slice ca p.codes.length cc, .int .i64 p.within] 62 w.heap.size 2 _ rfl rfl
  go_enter Try.func72, Try.ntmps72
  go_wp2_with fail
  go_loopw [5] (fun x wr => ∃ k : Nat, k ≤ R.length ∧ x = .int .i64 k ∧ Hid (∀ j, j < k → mFrom R p j = []) ∧ Below (w.heap.size + 1) (w.alloc (.cells #[.int .i64 p.fault, .slice ca p.codes.length cc, .int .i64 p.within] 62)) wr) (fun x _ => R.length - (intOf x).toNat)
  case atStart => exact ⟨0, Nat.zero_le _, rfl, hide (fun j hj => absurd hj (Nat.not_lt_zero j)), Below.refl _ _⟩
  case round =>
    obtain ⟨k, hk, rfl, hn, hbel⟩ := hrel
    have hbw : Below w.heap.size w wr := hba.trans (hbel.mono (by omega))
    have hws : w.heap.size + 1 ≤ wr.heap.size := by have := hbel.size; simpa using this
    have x0 := (hbel.cell (p := ⟨w.heap.size, 0, none⟩) (by simp)).trans hx0
    have x1 := (hbel.cell (p := ⟨w.heap.size, 1, none⟩) (by simp)).trans hx1
    have x2 := (hbel.cell (p := ⟨w.heap.size, 2, none⟩) (by simp)).trans hx2
    clear hx0 hx1 hx2 hba
    have R1 := hide (hr.later hbw)
    have D1 := hide (hd.later hbw)
    by_cases hlt : k < R.length
    · by_cases hm : mFrom R p k = []
      · have HMN := hide hm; clear hm
        go_wp2_with (go_at_call 86; refine (l20From_p p ca cc R _ cap k _ hlt HR.out HP.out R1.out D1.out).mono ?_; intro e w1 hq; obtain ⟨A1, cap1, rfl, hb1⟩ := givesE_none hq HMN.out)
        go_roundw
        case rel => exact ⟨k + 1, by omega, by go_num, hide (upto_nil hn.out HMN.out), hbel.trans (hb1.mono hws)⟩
        case measure => simp [intOf]; omega
      · have HMN := hide hm; clear hm
        have hpos := len_pos HMN.out
        go_wp2_with (go_at_call 86; refine (l20From_p p ca cc R _ cap k _ hlt HR.out HP.out R1.out D1.out).mono ?_; intro e w1 hq; obtain ⟨g, cap1, rfl, ho, hb1⟩ := givesE_some hq HMN.out)
        go_ret
        rw [mFirst_hit hlt hn.out HMN.out]
        exact ⟨_, cap1, rfl, ho.mono hbw.size, below_step hbw hb1 (Nat.le_refl _)⟩
    · obtain rfl : k = R.length := by omega
      go_wp2_with fail
      go_ret
      exact givesE_empty (mFirst_none hn.out) hbw
set_option maxRecDepth 100000 in
set_option maxHeartbeats 2000000 in
theorem detected_p (p : Pat) (ca : Option Addr) (cc : Nat) (R : List Event) (A : Option Addr) (cap : Nat) (w : World) (hR : recB R = true) (hp : patB p = true) (hr : Rd Event.enc 2 w.heap.size w A R) (hd : Rd encI 1 w.heap.size w ca p.codes) :
    Calls Try.prog 71 #[.agg #[.int .i64 p.fault, .slice ca p.codes.length cc, .int .i64 p.within], .slice A R.length cap] w fun e w' => e = .returned (.int .i64 (detT R p)) ∧ Below w.heap.size w w' := by
  have hlen := riseB_len hR
  have HR := hide hR; have HP := hide hp; clear hR hp
  have hba : Below w.heap.size w (w.alloc (.cells #[.int .i64 p.fault, .slice ca p.codes.length cc, .int .i64 p.within] 62)) := (Below.refl _ _).alloc (Nat.le_refl _) _
  obtain ⟨hx0, _⟩ := CF.new w #[.int .i64 p.fault, .slice ca p.codes.length cc, .int .i64 p.within] 62 w.heap.size 0 _ rfl rfl
  obtain ⟨hx1, _⟩ := CF.new w #[.int .i64 p.fault, .slice ca p.codes.length cc, .int .i64 p.within] 62 w.heap.size 1 _ rfl rfl
  obtain ⟨hx2, _⟩ := CF.new w #[.int .i64 p.fault, .slice ca p.codes.length cc, .int .i64 p.within] 62 w.heap.size 2 _ rfl rfl
  go_enter Try.func71, Try.ntmps71
  go_wp2_with fail
  go_loopw [11, 5] (fun x m wr => ∃ k : Nat, k ≤ R.length ∧ x = .int .i64 k ∧ m = .int .i64 (detUp R p k) ∧ Below (w.heap.size + 1) (w.alloc (.cells #[.int .i64 p.fault, .slice ca p.codes.length cc, .int .i64 p.within] 62)) wr) (fun x _ _ => R.length - (intOf x).toNat)
  case atStart => exact ⟨0, Nat.zero_le _, rfl, rfl, Below.refl _ _⟩
  case round =>
    obtain ⟨k, hk, rfl, rfl, hbel⟩ := hrel
    have hbw : Below w.heap.size w wr := hba.trans (hbel.mono (by omega))
    have hws : w.heap.size + 1 ≤ wr.heap.size := by have := hbel.size; simpa using this
    have x0 := (hbel.cell (p := ⟨w.heap.size, 0, none⟩) (by simp)).trans hx0
    have x1 := (hbel.cell (p := ⟨w.heap.size, 1, none⟩) (by simp)).trans hx1
    have x2 := (hbel.cell (p := ⟨w.heap.size, 2, none⟩) (by simp)).trans hx2
    clear hx0 hx1 hx2 hba
    have R1 := hide (hr.later hbw)
    have D1 := hide (hd.later hbw)
    obtain ⟨hm0, hm1⟩ := detUp_bd p HR.out k
    by_cases hlt : k < R.length
    · have HU := hide (show detUp R p (k + 1) = detStep (detUp R p k) R (mFrom R p k) from rfl)
      generalize detUp R p k = m at *
      by_cases hm : mFrom R p k = []
      · have HMN := hide hm; clear hm
        have hq0 := neq_nil
        go_wp2_with (go_at_call 87; refine (matchFrom_p p ca cc R _ cap k _ hlt HR.out HP.out R1.out D1.out).mono ?_; intro e w1 hq; have hq := givesM_none hq HMN.out; obtain ⟨rfl, hb1⟩ := hq)
        go_roundw
        case rel => exact ⟨k + 1, by omega, by go_num, by rw [HU.out, detStep_nil HMN.out], hbel.trans (hb1.mono hws)⟩
        case measure => simp [intOf]; omega
      · have HMN := hide hm; clear hm
        have hpos := len_pos HMN.out
        have hpos' : (0 : Int) < ((mFrom R p k).length : Int) := by omega
        obtain ⟨j, e0, hl, he, ht⟩ := endT_at (mFrom_places R p k) HMN.out
        obtain ⟨b, ob, rfl, hb, hc⟩ := Event.rd_at hr (by intro h; subst h; simp at hlt)
        obtain ⟨t0, t1⟩ := hc j _ he
        replace t0 := below_cell hbw t0
        have hjl : j < R.length := (List.getElem?_eq_some_iff.1 he).1
        have hji : (j : Int) < (R.length : Int) := by omega
        obtain ⟨⟨be0, be1⟩, _⟩ := recB_bd HR.out he
        have hml : (mFrom R p k).length ≤ 5 := by rcases mFrom_len R p k with h | h; exact absurd h HMN.out; rw [h]; have := (patB_bd HP.out).2.1; omega
        have HL := hide hl; have HT := hide ht; clear hl ht he hc
        have hq0 := neq_some
        by_cases h1 : m < 0
        · have HS := hide (show detUp R p (k + 1) = e0.time by rw [HU.out]; exact detStep_new HMN.out HT.out (by omega))
          clear HU HT
          go_wp2_with (go_at_call 87; refine (matchFrom_p p ca cc R _ cap k _ hlt HR.out HP.out R1.out D1.out).mono ?_; intro e w1 hq; obtain ⟨g, cap1, rfl, ho, hb1⟩ := givesM_some hq HMN.out; have z0 := own_int ho rfl HL.out; have z1 := below_cell hb1 t0)
          go_roundw
          case rel => exact ⟨k + 1, by omega, by go_num, by rw [HS.out], hbel.trans (hb1.mono hws)⟩
          case measure => simp [intOf]; omega
        · by_cases h2 : e0.time < m
          · have HS := hide (show detUp R p (k + 1) = e0.time by rw [HU.out]; exact detStep_new HMN.out HT.out (by omega))
            clear HU HT
            go_wp2_with (go_at_call 87; refine (matchFrom_p p ca cc R _ cap k _ hlt HR.out HP.out R1.out D1.out).mono ?_; intro e w1 hq; obtain ⟨g, cap1, rfl, ho, hb1⟩ := givesM_some hq HMN.out; have z0 := own_int ho rfl HL.out; have z1 := below_cell hb1 t0)
            go_roundw
            case rel => exact ⟨k + 1, by omega, by go_num, by rw [HS.out], hbel.trans (hb1.mono hws)⟩
            case measure => simp [intOf]; omega
          · have HS := hide (show detUp R p (k + 1) = m by rw [HU.out]; exact detStep_old HMN.out HT.out (by omega))
            clear HU HT
            go_wp2_with (go_at_call 87; refine (matchFrom_p p ca cc R _ cap k _ hlt HR.out HP.out R1.out D1.out).mono ?_; intro e w1 hq; obtain ⟨g, cap1, rfl, ho, hb1⟩ := givesM_some hq HMN.out; have z0 := own_int ho rfl HL.out; have z1 := below_cell hb1 t0)
            go_roundw
            case rel => exact ⟨k + 1, by omega, by go_num, by rw [HS.out], hbel.trans (hb1.mono hws)⟩
            case measure => simp [intOf]; omega
    · obtain rfl : k = R.length := by omega
      go_wp2_with fail
      go_ret
      exact ⟨rfl, hbw⟩
set_option maxRecDepth 100000 in
set_option maxHeartbeats 2000000 in
theorem l20Detected_p (p : Pat) (ca : Option Addr) (cc : Nat) (R : List Event) (A : Option Addr) (cap : Nat) (w : World) (hR : recB R = true) (hp : patB p = true) (hr : Rd Event.enc 2 w.heap.size w A R) (hd : Rd encI 1 w.heap.size w ca p.codes) :
    Calls Try.prog 70 #[.slice A R.length cap, .agg #[.int .i64 p.fault, .slice ca p.codes.length cc, .int .i64 p.within]] w fun e w' => e = .returned (.int .i64 (detT R p)) ∧ Below w.heap.size w w' := by
  have hlen := riseB_len hR
  have HR := hide hR; have HP := hide hp; clear hR hp
  have hba : Below w.heap.size w (w.alloc (.cells #[.int .i64 p.fault, .slice ca p.codes.length cc, .int .i64 p.within] 62)) := (Below.refl _ _).alloc (Nat.le_refl _) _
  obtain ⟨hx0, _⟩ := CF.new w #[.int .i64 p.fault, .slice ca p.codes.length cc, .int .i64 p.within] 62 w.heap.size 0 _ rfl rfl
  obtain ⟨hx1, _⟩ := CF.new w #[.int .i64 p.fault, .slice ca p.codes.length cc, .int .i64 p.within] 62 w.heap.size 1 _ rfl rfl
  obtain ⟨hx2, _⟩ := CF.new w #[.int .i64 p.fault, .slice ca p.codes.length cc, .int .i64 p.within] 62 w.heap.size 2 _ rfl rfl
  go_enter Try.func70, Try.ntmps70
  go_wp2_with fail
  go_loopw [6, 5] (fun x m wr => ∃ k : Nat, k ≤ R.length ∧ x = .int .i64 k ∧ m = .int .i64 (detUp R p k) ∧ Below (w.heap.size + 1) (w.alloc (.cells #[.int .i64 p.fault, .slice ca p.codes.length cc, .int .i64 p.within] 62)) wr) (fun x _ _ => R.length - (intOf x).toNat)
  case atStart => exact ⟨0, Nat.zero_le _, rfl, rfl, Below.refl _ _⟩
  case round =>
    obtain ⟨k, hk, rfl, rfl, hbel⟩ := hrel
    have hbw : Below w.heap.size w wr := hba.trans (hbel.mono (by omega))
    have hws : w.heap.size + 1 ≤ wr.heap.size := by have := hbel.size; simpa using this
    have x0 := (hbel.cell (p := ⟨w.heap.size, 0, none⟩) (by simp)).trans hx0
    have x1 := (hbel.cell (p := ⟨w.heap.size, 1, none⟩) (by simp)).trans hx1
    have x2 := (hbel.cell (p := ⟨w.heap.size, 2, none⟩) (by simp)).trans hx2
    clear hx0 hx1 hx2 hba
    have R1 := hide (hr.later hbw)
    have D1 := hide (hd.later hbw)
    obtain ⟨hm0, hm1⟩ := detUp_bd p HR.out k
    by_cases hlt : k < R.length
    · have HU := hide (show detUp R p (k + 1) = detStep (detUp R p k) R (mFrom R p k) from rfl)
      generalize detUp R p k = m at *
      by_cases hm : mFrom R p k = []
      · have HMN := hide hm; clear hm
        go_wp2_with (go_at_call 86; refine (l20From_p p ca cc R _ cap k _ hlt HR.out HP.out R1.out D1.out).mono ?_; intro e w1 hq; obtain ⟨A1, cap1, rfl, hb1⟩ := givesE_none hq HMN.out)
        go_roundw
        case rel => exact ⟨k + 1, by omega, by go_num, by rw [HU.out, detStep_nil HMN.out], hbel.trans (hb1.mono hws)⟩
        case measure => simp [intOf]; omega
      · have HMN := hide hm; clear hm
        have hpos := len_pos HMN.out
        have hpos' : (0 : Int) < ((mFrom R p k).length : Int) := by omega
        obtain ⟨j, e0, hl, he, ht⟩ := endT_at (mFrom_places R p k) HMN.out
        obtain ⟨b, ob, rfl, hb, hc⟩ := Event.rd_at hr (by intro h; subst h; simp at hlt)
        obtain ⟨t0, t1⟩ := hc j _ he
        replace t0 := below_cell hbw t0
        have hjl : j < R.length := (List.getElem?_eq_some_iff.1 he).1
        have hji : (j : Int) < (R.length : Int) := by omega
        obtain ⟨⟨be0, be1⟩, _⟩ := recB_bd HR.out he
        have hml : (mFrom R p k).length ≤ 5 := by rcases mFrom_len R p k with h | h; exact absurd h HMN.out; rw [h]; have := (patB_bd HP.out).2.1; omega
        have HL := hide hl; have HT := hide ht; clear hl ht he hc
        by_cases h1 : m < 0
        · have HS := hide (show detUp R p (k + 1) = e0.time by rw [HU.out]; exact detStep_new HMN.out HT.out (by omega))
          clear HU HT
          go_wp2_with (go_at_call 86; refine (l20From_p p ca cc R _ cap k _ hlt HR.out HP.out R1.out D1.out).mono ?_; intro e w1 hq; obtain ⟨g, cap1, rfl, ho, hb1⟩ := givesE_some hq HMN.out; have z0 := own_int ho rfl HL.out; have z1 := below_cell hb1 t0)
          go_roundw
          case rel => exact ⟨k + 1, by omega, by go_num, by rw [HS.out], hbel.trans (hb1.mono hws)⟩
          case measure => simp [intOf]; omega
        · by_cases h2 : e0.time < m
          · have HS := hide (show detUp R p (k + 1) = e0.time by rw [HU.out]; exact detStep_new HMN.out HT.out (by omega))
            clear HU HT
            go_wp2_with (go_at_call 86; refine (l20From_p p ca cc R _ cap k _ hlt HR.out HP.out R1.out D1.out).mono ?_; intro e w1 hq; obtain ⟨g, cap1, rfl, ho, hb1⟩ := givesE_some hq HMN.out; have z0 := own_int ho rfl HL.out; have z1 := below_cell hb1 t0)
            go_roundw
            case rel => exact ⟨k + 1, by omega, by go_num, by rw [HS.out], hbel.trans (hb1.mono hws)⟩
            case measure => simp [intOf]; omega
          · have HS := hide (show detUp R p (k + 1) = m by rw [HU.out]; exact detStep_old HMN.out HT.out (by omega))
            clear HU HT
            go_wp2_with (go_at_call 86; refine (l20From_p p ca cc R _ cap k _ hlt HR.out HP.out R1.out D1.out).mono ?_; intro e w1 hq; obtain ⟨g, cap1, rfl, ho, hb1⟩ := givesE_some hq HMN.out; have z0 := own_int ho rfl HL.out; have z1 := below_cell hb1 t0)
            go_roundw
            case rel => exact ⟨k + 1, by omega, by go_num, by rw [HS.out], hbel.trans (hb1.mono hws)⟩
            case measure => simp [intOf]; omega
    · obtain rfl : k = R.length := by omega
      go_wp2_with fail
      go_ret
      exact ⟨rfl, hbw⟩
end Go.Proofs.Ytmnepaedkilnoaa
