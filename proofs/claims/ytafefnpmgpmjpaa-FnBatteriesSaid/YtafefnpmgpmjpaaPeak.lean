/- PeakOf: both packages. Slices are as the reader gives them. -/
import Derived.Test.YtafefnpmgpmjpaaBatP
import Derived.Test.YtafefnpmgpmjpaaAllIn
import Derived.Test.YtafefnpmgpmjpaaLibInt
import Derived.Deep.DeepCutAuto
namespace Go.Proofs.Ytafefnpmgpmjpaa
open Go Go.RowKit
set_option linter.unusedVariables false
set_option linter.unusedSimpArgs false
theorem peak_no1 {P Q : List Int} (h : inB P.length 1 20 = false) : peakB P Q = false := by simp [peakB, h]
theorem peak_no2 {P Q : List Int} (h : ¬ Q.length = P.length) : peakB P Q = false := by simp [peakB, h]
theorem peak_no3 {P Q : List Int} (h : (P.all fun n => inB n 0 1000000) = false) : peakB P Q = false := by simp only [peakB, h, Bool.false_and, Bool.and_false]
theorem peak_no4 {P Q : List Int} (h : (Q.all fun n => inB n 0 1000) = false) : peakB P Q = false := by simp only [peakB, h, Bool.and_false]
theorem peak_yes {P Q : List Int} (h1 : inB P.length 1 20 = true) (h2 : Q.length = P.length) (h3 : (P.all fun n => inB n 0 1000000) = true) (h4 : (Q.all fun n => inB n 0 1000) = true) : peakB P Q = true := by simp only [peakB, h1, h2, h3, h4, decide_true, Bool.and_true]
theorem peakV_no {P Q : List Int} (h : peakB P Q = false) : peakV P Q = 0 ∧ peakE P Q = 0 := by simp [peakV, peakE, h]
theorem all_in {l : List Int} {lo hi : Int} (h : (l.all fun n => inB n lo hi) = true) {k : Nat} {n : Int} (hg : l[k]? = some n) : lo ≤ n ∧ n ≤ hi :=
  inB_iff.1 (List.all_eq_true.1 h n (List.mem_of_getElem? hg))
theorem peakV_yes {P Q : List Int} (h : peakB P Q = true) : peakV P Q = P.getD (fullUp P P.length) 0 ∧ peakE P Q = sumWM P Q := by simp [peakV, peakE, h]
set_option maxRecDepth 100000 in
set_option maxHeartbeats 2000000 in
theorem PeakOf_any (P Q : List Int) (A1 A2 : Option Addr) (c1 c2 : Nat) (w : World) (hr1 : Rd encI 1 w.heap.size w A1 P) (hr2 : Rd encI 1 w.heap.size w A2 Q) (hl1 : P.length ≤ 1000000) (hl2 : Q.length ≤ 1000000) :
    Calls Try.prog 27 #[.slice A1 P.length c1, .slice A2 Q.length c2] w fun e w' => e = .returned (.tuple #[.int .i64 (peakV P Q), .int .i64 (peakE P Q), .bool (peakB P Q)]) ∧ Below w.heap.size w w' := by
  cases g1 : inB P.length 1 20
  · have h1 := hide g1
    have HB := hide (peak_no1 (Q := Q) g1)
    have HV := hide (peakV_no HB.out)
    clear g1
    go_enter Try.func27, Try.ntmps27
    go_wp2_with (first | (go_at_call 60; refine (within_is h1.out _).mono ?_; rintro e w' ⟨rfl, rfl⟩) | (go_at_call 63; with_reducible refine (allIn_is h3.out _ _ _ hr1 (by unfold maxLen; omega)).mono ?_; rintro e w' ⟨rfl, rfl⟩) | (go_at_call 63; with_reducible refine (allIn_is h4.out _ _ _ hr2 (by unfold maxLen; omega)).mono ?_; rintro e w' ⟨rfl, rfl⟩))
    go_ret3
    exact ⟨by rw [HV.out.1, HV.out.2, HB.out] <;> rfl, Below.refl _ _⟩
  have h1 := hide g1
  have hlen := inB_iff.1 g1
  by_cases g2 : Q.length = P.length
  case neg =>
    have hne : ((Q.length : Int) != (P.length : Int)) = true := by simp; omega
    have HB := hide (peak_no2 (P := P) (Q := Q) g2)
    have HV := hide (peakV_no HB.out)
    clear g1 g2
    go_enter Try.func27, Try.ntmps27
    go_wp2_with (first | (go_at_call 60; refine (within_is h1.out _).mono ?_; rintro e w' ⟨rfl, rfl⟩) | (go_at_call 63; with_reducible refine (allIn_is h3.out _ _ _ hr1 (by unfold maxLen; omega)).mono ?_; rintro e w' ⟨rfl, rfl⟩) | (go_at_call 63; with_reducible refine (allIn_is h4.out _ _ _ hr2 (by unfold maxLen; omega)).mono ?_; rintro e w' ⟨rfl, rfl⟩))
    go_ret3
    exact ⟨by rw [HV.out.1, HV.out.2, HB.out] <;> rfl, Below.refl _ _⟩
  have hne : ((Q.length : Int) != (P.length : Int)) = false := by simp; omega
  have HQ := hide g2
  cases g3 : P.all fun n => inB n 0 1000000
  · have h3 := hide g3
    have HB := hide (peak_no3 (P := P) (Q := Q) g3)
    have HV := hide (peakV_no HB.out)
    clear g1 g2 g3
    go_enter Try.func27, Try.ntmps27
    go_wp2_with (first | (go_at_call 60; refine (within_is h1.out _).mono ?_; rintro e w' ⟨rfl, rfl⟩) | (go_at_call 63; with_reducible refine (allIn_is h3.out _ _ _ hr1 (by unfold maxLen; omega)).mono ?_; rintro e w' ⟨rfl, rfl⟩) | (go_at_call 63; with_reducible refine (allIn_is h4.out _ _ _ hr2 (by unfold maxLen; omega)).mono ?_; rintro e w' ⟨rfl, rfl⟩))
    go_ret3
    exact ⟨by rw [HV.out.1, HV.out.2, HB.out] <;> rfl, Below.refl _ _⟩
  have h3 := hide g3
  cases g4 : Q.all fun n => inB n 0 1000
  · have h4 := hide g4
    have HB := hide (peak_no4 (P := P) (Q := Q) g4)
    have HV := hide (peakV_no HB.out)
    clear g1 g2 g3 g4
    go_enter Try.func27, Try.ntmps27
    go_wp2_with (first | (go_at_call 60; refine (within_is h1.out _).mono ?_; rintro e w' ⟨rfl, rfl⟩) | (go_at_call 63; with_reducible refine (allIn_is h3.out _ _ _ hr1 (by unfold maxLen; omega)).mono ?_; rintro e w' ⟨rfl, rfl⟩) | (go_at_call 63; with_reducible refine (allIn_is h4.out _ _ _ hr2 (by unfold maxLen; omega)).mono ?_; rintro e w' ⟨rfl, rfl⟩))
    go_ret3
    exact ⟨by rw [HV.out.1, HV.out.2, HB.out] <;> rfl, Below.refl _ _⟩
  have h4 := hide g4
  have HB := hide (peak_yes g1 g2 g3 g4)
  have HV := hide (peakV_yes HB.out)
  clear g1 g2 g3 g4
  go_enter Try.func27, Try.ntmps27
  go_wp2_with (first | (go_at_call 60; refine (within_is h1.out _).mono ?_; rintro e w' ⟨rfl, rfl⟩) | (go_at_call 63; with_reducible refine (allIn_is h3.out _ _ _ hr1 (by unfold maxLen; omega)).mono ?_; rintro e w' ⟨rfl, rfl⟩) | (go_at_call 63; with_reducible refine (allIn_is h4.out _ _ _ hr2 (by unfold maxLen; omega)).mono ?_; rintro e w' ⟨rfl, rfl⟩))
  go_loop [33, 7] (fun i s => ∃ (k : Nat) (S : Int), k ≤ P.length ∧ i = .int .i64 k ∧ s = .int .i64 S ∧ Hid (S = sumWM (P.take k) (Q.take k)) ∧ 0 ≤ S ∧ S ≤ 1000000000 * k) (fun i _ => P.length - (intOf i).toNat)
  case atStart => exact ⟨0, 0, Nat.zero_le _, rfl, rfl, hide (by simp [sumWM]), by omega, by omega⟩
  case round =>
    obtain ⟨k, S, hk, rfl, rfl, HS, s0, s1⟩ := hrel
    by_cases hlt : k < P.length
    · have hltq : k < Q.length := by have := HQ.out; omega
      have hki : (k : Int) < (P.length : Int) := by omega
      have hkq : (k : Int) < (Q.length : Int) := by omega
      obtain ⟨b1, o1, rfl, _, hc1⟩ := rd_int hr1 (by intro h; rw [h] at hlt; simp at hlt)
      obtain ⟨b2, o2, rfl, _, hc2⟩ := rd_int hr2 (by intro h; rw [h] at hltq; simp at hltq)
      obtain ⟨a, ha⟩ : ∃ a, P[k]? = some a := ⟨_, List.getElem?_eq_getElem hlt⟩
      obtain ⟨b, hb⟩ : ∃ b, Q[k]? = some b := ⟨_, List.getElem?_eq_getElem hltq⟩
      have x1 := hc1 k _ ha; have x2 := hc2 k _ hb
      obtain ⟨a0, a1⟩ := all_in h3.out ha; obtain ⟨b0, b1'⟩ := all_in h4.out hb
      obtain ⟨p0, p1⟩ := prod_bd a0 a1 b0 b1'
      have HST := hide (sumWM_step P Q k a b ha hb)
      clear hc1 hc2 ha hb hr1 hr2
      go_wp2_with fail
      go_round
      case rel => exact ⟨k + 1, S + a * b, by omega, by go_num, rfl, hide (by rw [HST.out, HS.out]), by omega, by omega⟩
      case measure => simp [intOf]; omega
    · obtain rfl : k = P.length := by omega
      have HE := hide (show peakE P Q = S by rw [HV.out.2, HS.out, List.take_length, ← HQ.out, List.take_length])
      go_wp2_with (go_at_call 64; refine (MaxI_any P _ _ _ hr1 (by omega) (by omega)).mono ?_; rintro e w' ⟨rfl, rfl⟩)
      go_ret3
      exact ⟨by rw [HV.out.1, HE.out, HB.out] <;> rfl, Below.refl _ _⟩
set_option maxRecDepth 100000 in
set_option maxHeartbeats 4000000 in
theorem PeakOf_spec (P Q : List Int) (A1 A2 : Option Addr) (c1 c2 : Nat) (w : World) (hr1 : Rd encI 1 w.heap.size w A1 P) (hr2 : Rd encI 1 w.heap.size w A2 Q) (hl1 : P.length ≤ 1000000) (hl2 : Q.length ≤ 1000000) :
    Calls Try.prog 28 #[.slice A1 P.length c1, .slice A2 Q.length c2] w fun e w' => e = .returned (.tuple #[.int .i64 (peakV P Q), .int .i64 (peakE P Q), .bool (peakB P Q)]) ∧ Below w.heap.size w w' := by
  cases g1 : inB P.length 1 20
  · have h1 := hide g1
    have HB := hide (peak_no1 (Q := Q) g1)
    have HV := hide (peakV_no HB.out)
    clear g1
    go_enter Try.func28, Try.ntmps28
    go_wp2_with (go_at_call 58; refine (l1In_is h1.out _).mono ?_; rintro e w' ⟨rfl, rfl⟩)
    go_ret3
    exact ⟨by rw [HV.out.1, HV.out.2, HB.out] <;> rfl, Below.refl _ _⟩
  have h1 := hide g1
  have hlen := inB_iff.1 g1
  by_cases g2 : Q.length = P.length
  case neg =>
    have hne : ((Q.length : Int) != (P.length : Int)) = true := by simp; omega
    have HB := hide (peak_no2 (P := P) (Q := Q) g2)
    have HV := hide (peakV_no HB.out)
    clear g1 g2
    go_enter Try.func28, Try.ntmps28
    go_wp2_with (go_at_call 58; refine (l1In_is h1.out _).mono ?_; rintro e w' ⟨rfl, rfl⟩)
    go_ret3
    exact ⟨by rw [HV.out.1, HV.out.2, HB.out] <;> rfl, Below.refl _ _⟩
  have hne : ((Q.length : Int) != (P.length : Int)) = false := by simp; omega
  have HQ := hide g2; clear g1 g2
  go_enter Try.func28, Try.ntmps28
  go_wp2_with (go_at_call 58; refine (l1In_is h1.out _).mono ?_; rintro e w' ⟨rfl, rfl⟩)
  go_loopw [9, 7, 8] (fun i m s wr => ∃ (k : Nat) (S M : Int), k ≤ P.length ∧ i = .int .i64 k ∧ m = .int .i64 M ∧ s = .int .i64 S ∧ Hid (M = mxUp P k) ∧ Hid (S = sumWM (P.take k) (Q.take k)) ∧ 0 ≤ S ∧ S ≤ 1000000000 * k ∧ Hid (∀ (i : Nat) (n : Int), i < k → P[i]? = some n → inB n 0 1000000 = true) ∧ Hid (∀ (i : Nat) (n : Int), i < k → Q[i]? = some n → inB n 0 1000 = true) ∧ Below w.heap.size w wr) (fun i _ _ _ => P.length - (intOf i).toNat)
  case atStart => exact ⟨0, 0, 0, Nat.zero_le _, rfl, rfl, rfl, hide rfl, hide (by simp [sumWM]), by omega, by omega, hide (fun i n hi => absurd hi (Nat.not_lt_zero i)), hide (fun i n hi => absurd hi (Nat.not_lt_zero i)), Below.refl _ _⟩
  case round =>
    obtain ⟨k, S, M, hk, rfl, rfl, rfl, HM, HS, s0, s1, HP1, HP2, hbel⟩ := hrel
    by_cases hlt : k < P.length
    · have hltq : k < Q.length := by have := HQ.out; omega
      have hki : (k : Int) < (P.length : Int) := by omega
      have hkq : (k : Int) < (Q.length : Int) := by omega
      obtain ⟨b1, o1, rfl, _, hc1⟩ := rd_int hr1 (by intro h; rw [h] at hlt; simp at hlt)
      obtain ⟨b2, o2, rfl, _, hc2⟩ := rd_int hr2 (by intro h; rw [h] at hltq; simp at hltq)
      obtain ⟨a, ha⟩ : ∃ a, P[k]? = some a := ⟨_, List.getElem?_eq_getElem hlt⟩
      obtain ⟨b, hb⟩ : ∃ b, Q[k]? = some b := ⟨_, List.getElem?_eq_getElem hltq⟩
      have x1 := below_cell hbel (hc1 k _ ha); have x2 := below_cell hbel (hc2 k _ hb)
      have HA := hide ha; have HBQ := hide hb
      clear hc1 hc2 ha hb hr1 hr2
      cases g3 : inB a 0 1000000
      · have h3 := hide g3; clear g3
        have HB := hide (peak_no3 (P := P) (Q := Q) (all_no HA.out h3.out))
        have HV := hide (peakV_no HB.out)
        go_wp2_with (first | (go_at_call 58; with_reducible refine (l1In_is h3.out _).mono ?_; rintro e w' ⟨rfl, rfl⟩) | (go_at_call 58; with_reducible refine (l1In_is h4.out _).mono ?_; rintro e w' ⟨rfl, rfl⟩) | (go_at_call 65; refine (l1Most_any _ _ _).mono ?_; rintro e w' ⟨rfl, rfl⟩))
        go_ret3
        exact ⟨by rw [HV.out.1, HV.out.2, HB.out] <;> rfl, hbel⟩
      have h3 := hide g3
      cases g4 : inB b 0 1000
      · have h4 := hide g4; clear g3 g4
        have HB := hide (peak_no4 (P := P) (Q := Q) (all_no HBQ.out h4.out))
        have HV := hide (peakV_no HB.out)
        go_wp2_with (first | (go_at_call 58; with_reducible refine (l1In_is h3.out _).mono ?_; rintro e w' ⟨rfl, rfl⟩) | (go_at_call 58; with_reducible refine (l1In_is h4.out _).mono ?_; rintro e w' ⟨rfl, rfl⟩) | (go_at_call 65; refine (l1Most_any _ _ _).mono ?_; rintro e w' ⟨rfl, rfl⟩))
        go_ret3
        exact ⟨by rw [HV.out.1, HV.out.2, HB.out] <;> rfl, hbel⟩
      have h4 := hide g4
      obtain ⟨a0, a1⟩ := inB_iff.1 g3; obtain ⟨b0, b1'⟩ := inB_iff.1 g4
      obtain ⟨p0, p1⟩ := prod_bd a0 a1 b0 b1'
      have HST := hide (sumWM_step P Q k a b HA.out HBQ.out)
      have HMS := hide (mxUp_step HA.out)
      clear g3 g4
      go_wp2_with (first | (go_at_call 58; with_reducible refine (l1In_is h3.out _).mono ?_; rintro e w' ⟨rfl, rfl⟩) | (go_at_call 58; with_reducible refine (l1In_is h4.out _).mono ?_; rintro e w' ⟨rfl, rfl⟩) | (go_at_call 65; refine (l1Most_any _ _ _).mono ?_; rintro e w' ⟨rfl, rfl⟩))
      have y1 := after_cell x1; have y2 := after_cell x2
      refine wp_region_after (by kernel_rfl) (by kernel_rfl) ?_
      repeat (go_big_quiet_step (fail))
      refine wpQuiet_nil ?_
      rintro w1 ⟨⟨_, hb1⟩, rfl⟩
      clear y1 y2
      go_wp2_with fail
      go_roundw
      case rel => exact ⟨k + 1, S + a * b, max M a, by omega, by go_num, rfl, rfl, hide (by rw [HMS.out, HM.out]), hide (by rw [HST.out, HS.out]), by omega, by omega, hide (all_step HP1.out HA.out h3.out), hide (all_step HP2.out HBQ.out h4.out), below_step hbel hb1 (Nat.le_refl _)⟩
      case measure => simp [intOf]; omega
    · obtain rfl : k = P.length := by omega
      have g3 := all_yes (Nat.le_refl _) HP1.out
      have g4 := all_yes (Nat.le_of_eq HQ.out) HP2.out
      have HB := hide (peak_yes h1.out HQ.out g3 g4)
      have HV := hide (peakV_yes HB.out)
      have HMM := hide (show peakV P Q = M by rw [HV.out.1, HM.out, mxUp_full (fun x hx => (inB_iff.1 (List.all_eq_true.1 g3 x hx)).1) _ (by omega) (Nat.le_refl _)])
      have HE := hide (show peakE P Q = S by rw [HV.out.2, HS.out, List.take_length, ← HQ.out, List.take_length])
      clear g3 g4
      go_wp2_with fail
      go_ret3
      exact ⟨by rw [HMM.out, HE.out, HB.out] <;> rfl, hbel⟩
end Go.Proofs.Ytafefnpmgpmjpaa
