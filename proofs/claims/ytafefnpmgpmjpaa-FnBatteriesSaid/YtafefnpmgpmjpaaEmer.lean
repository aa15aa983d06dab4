/- EmergencyLoad: both packages. -/
import Derived.Test.YtafefnpmgpmjpaaBat
namespace Go.Proofs.Ytafefnpmgpmjpaa
open Go Go.RowKit
set_option linter.unusedVariables false
def emB (L : List Consumer) (rank : Int) : Bool := consB L && inB rank 1 9
def emV (L : List Consumer) (rank : Int) : Int := if emB L rank then loadI L rank else 0
theorem emV_bd (L : List Consumer) (rank : Int) : 0 ≤ emV L rank ∧ emV L rank ≤ 8000000 := by
  unfold emV
  split
  · rename_i h
    simp only [emB, Bool.and_eq_true] at h
    exact loadI_bd rank h.1
  · omega
theorem loadUp_mono (L : List Consumer) (r : Int) (h : consB L = true) : ∀ k, k ≤ L.length → loadUp L (r - 1) k ≤ loadUp L r k
  | 0, _ => Int.le_refl _
  | k + 1, hk => by
    have ih := loadUp_mono L r h k (by omega)
    have hg := List.getElem?_eq_getElem (show k < L.length by omega)
    have hw := (consB_one h hg).1
    by_cases h1 : (L[k]'(by omega)).rank ≤ r - 1
    · rw [loadUp_yes hg h1, loadUp_yes hg (by omega)]; omega
    · rw [loadUp_no hg h1]
      by_cases h2 : (L[k]'(by omega)).rank ≤ r
      · rw [loadUp_yes hg h2]; omega
      · rw [loadUp_no hg h2]; exact ih
theorem em_mono {L : List Consumer} {r : Int} (h1 : emB L r = true) (h2 : emB L (r - 1) = true) : emV L (r - 1) ≤ emV L r := by
  rw [emV, if_pos h2, emV, if_pos h1]
  simp only [emB, Bool.and_eq_true] at h1
  exact loadUp_mono L r h1.1 _ (Nat.le_refl _)
set_option maxHeartbeats 1000000 in
theorem EmergencyLoad_any (L : List Consumer) (rank : Int) (A : Option Addr) (cap : Nat) (w : World) (hr : Rd Consumer.enc 3 w.heap.size w A L) (hok : ∀ c ∈ L, c.Ok) (hl : L.length ≤ maxLen) (hcap : L.length ≤ cap) :
    Calls Try.prog 25 #[.slice A L.length cap, .int .i64 rank] w fun e w' => e = .returned (.tuple #[.int .i64 (emV L rank), .bool (emB L rank)]) ∧ Below w.heap.size w w' := by
  cases h : consB L
  · have H := hide h
    have HB := hide (show emB L rank = false by simp [emB, h]); have HV := hide (show emV L rank = 0 by simp [emV, HB.out]); clear h
    go_enter Try.func25, Try.ntmps25
    go_wp2_with (first | (go_at_call 42; refine (AreConsumers_is H.out _ _ _ hr hok hl hcap).mono ?_; rintro e w1 ⟨rfl, hb1⟩) | (go_at_call 60; refine (within_is (by assumption) _).mono ?_; rintro e w' ⟨rfl, rfl⟩))
    go_ret2
    rw [HB.out, HV.out]; exact ⟨rfl, hb1⟩
  · have H := hide h; have HC := hide h
    cases h2 : inB rank 1 9
    · have HB := hide (show emB L rank = false by simp [emB, h2]); have HV := hide (show emV L rank = 0 by simp [emV, HB.out]); clear h
      go_enter Try.func25, Try.ntmps25
      go_wp2_with (first | (go_at_call 42; refine (AreConsumers_is H.out _ _ _ hr hok hl hcap).mono ?_; rintro e w1 ⟨rfl, hb1⟩) | (go_at_call 60; refine (within_is (by assumption) _).mono ?_; rintro e w' ⟨rfl, rfl⟩))
      go_ret2
      rw [HB.out, HV.out]; exact ⟨rfl, hb1⟩
    · have HB := hide (show emB L rank = true by simp [emB, h, h2]); have HV := hide (show emV L rank = loadI L rank by simp [emV, HB.out]); clear h
      go_enter Try.func25, Try.ntmps25
      go_wp2_with (first | (go_at_call 42; refine (AreConsumers_is H.out _ _ _ hr hok hl hcap).mono ?_; rintro e w1 ⟨rfl, hb1⟩) | (go_at_call 60; refine (within_is (by assumption) _).mono ?_; rintro e w' ⟨rfl, rfl⟩) | (go_at_call 52; refine (emergencyLoad_any L rank _ _ _ HC.out (hr.later hb1)).mono ?_; rintro e w2 ⟨rfl, hb2⟩))
      go_ret2
      rw [HB.out, HV.out]; exact ⟨rfl, below_step hb1 hb2 (Nat.le_refl _)⟩
set_option maxHeartbeats 1000000 in
theorem EmergencyLoad_spec (L : List Consumer) (rank : Int) (A : Option Addr) (cap : Nat) (w : World) (hr : Rd Consumer.enc 3 w.heap.size w A L) (hok : ∀ c ∈ L, c.Ok) (hl : L.length ≤ maxLen) :
    Calls Try.prog 41 #[.slice A L.length cap, .int .i64 rank] w fun e w' => e = .returned (.tuple #[.int .i64 (emV L rank), .bool (emB L rank)]) ∧ Below w.heap.size w w' := by
  cases h : consB L
  · have H := hide h
    have HB := hide (show emB L rank = false by simp [emB, h]); have HV := hide (show emV L rank = 0 by simp [emV, HB.out]); clear h
    go_enter Try.func41, Try.ntmps41
    go_wp2_with (first | (go_at_call 44; refine (l18Good_is H.out _ _ _ hr hok hl).mono ?_; rintro e w1 ⟨rfl, hb1⟩) | (go_at_call 58; refine (l1In_is (by assumption) _).mono ?_; rintro e w' ⟨rfl, rfl⟩))
    go_ret2
    rw [HB.out, HV.out]; exact ⟨rfl, hb1⟩
  · have H := hide h; have HC := hide h
    cases h2 : inB rank 1 9
    · have HB := hide (show emB L rank = false by simp [emB, h2]); have HV := hide (show emV L rank = 0 by simp [emV, HB.out]); clear h
      go_enter Try.func41, Try.ntmps41
      go_wp2_with (first | (go_at_call 44; refine (l18Good_is H.out _ _ _ hr hok hl).mono ?_; rintro e w1 ⟨rfl, hb1⟩) | (go_at_call 58; refine (l1In_is (by assumption) _).mono ?_; rintro e w' ⟨rfl, rfl⟩))
      go_ret2
      rw [HB.out, HV.out]; exact ⟨rfl, hb1⟩
    · have HB := hide (show emB L rank = true by simp [emB, h, h2]); have HV := hide (show emV L rank = loadI L rank by simp [emV, HB.out]); clear h
      go_enter Try.func41, Try.ntmps41
      go_wp2_with (first | (go_at_call 44; refine (l18Good_is H.out _ _ _ hr hok hl).mono ?_; rintro e w1 ⟨rfl, hb1⟩) | (go_at_call 58; refine (l1In_is (by assumption) _).mono ?_; rintro e w' ⟨rfl, rfl⟩) | (go_at_call 47; refine (l18Load_any L rank _ _ _ HC.out (hr.later hb1)).mono ?_; rintro e w2 ⟨rfl, hb2⟩))
      go_ret2
      rw [HB.out, HV.out]; exact ⟨rfl, below_step hb1 hb2 (Nat.le_refl _)⟩
end Go.Proofs.Ytafefnpmgpmjpaa
