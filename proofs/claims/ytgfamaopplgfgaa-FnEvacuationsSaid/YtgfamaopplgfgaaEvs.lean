/- The best of all assignments: what the law FnEvacuations asks. -/
import Derived.Test.YtgfamaopplgfgaaBest
import Derived.Test.YtgfamaopplgfgaaDrawX19b
import Derived.Test.YtgfamaopplgfgaaTools
namespace Go.Proofs.Ytgfamaopplgfgaa
open Go Go.RowKit
set_option linter.unusedVariables false
theorem zeros_dg (c : Nat) : ∀ t, List.replicate t (0 : Int) = dg c t 0
  | 0 => rfl
  | t + 1 => by simp [dg, List.replicate_succ, ← zeros_dg c t]
theorem timeUp_le (L : List Support) (C : List Crew) (P S : List Int) : ∀ n k, k < n → crewT L C P S k ≤ timeUp L C P S n
  | 0, k, h => by omega
  | n + 1, k, h => by
    rw [timeUp]
    rcases Nat.lt_or_eq_of_le (Nat.lt_succ_iff.1 h) with h | h
    · have := timeUp_le L C P S n k h
      omega
    · subst h; omega
theorem best_all {L : List Support} {C : List Crew} {P : List Int} (h : goodR L C P = true) :
    asB L C P (bestL L C P) = true ∧ timeV L C P (bestL L C P) = bestT L C P ∧ asB L C P (List.replicate P.length 0) = true ∧ bestT L C P ≤ timeV L C P (List.replicate P.length 0) ∧
    ∀ k, k < C.length → cttB L C P (bestL L C P) (k : Int) = true ∧ cttV L C P (bestL L C P) (k : Int) ≤ bestT L C P := by
  have hc : 0 < C.length := by have := goodR_len h; omega
  obtain ⟨h1, h2, h3⟩ := best_props h hc
  have e1 : bestL L C P = (bestR L C P P.length []).1 := by rw [bestL, bestB, if_pos h]
  have e2 : bestT L C P = (bestR L C P P.length []).2 := by rw [bestT, bestB, if_pos h]
  rw [e1, e2]
  have hz : asB L C P (List.replicate P.length 0) = true := by rw [zeros_dg C.length]; exact dg_as h hc 0
  refine ⟨h1, by rw [timeV, if_pos h1, h2], hz, ?_, fun k hk => ?_⟩
  · rw [timeV, if_pos hz]
    exact h3 _ hz ⟨0, Nat.pow_pos hc, zeros_dg _ _⟩
  · have hb : cttB L C P (bestR L C P P.length []).1 (k : Int) = true := by
      simp only [cttB, h1, Bool.true_and]
      exact inB_iff.2 ⟨by omega, by omega⟩
    refine ⟨hb, ?_⟩
    rw [cttV, if_pos hb, h2, Int.toNat_natCast]
    exact timeUp_le _ _ _ _ _ _ hk
theorem ct_idle {L : List Support} {P S : List Int} {c : Crew} {crew : Int} (h : ∀ n ∈ S, n ≠ crew) : ∀ j, (ctUp L P S c crew j).2 = 0
  | 0 => rfl
  | j + 1 => by
    simp only [ctUp]
    cases hs : S[j]? with
    | none => exact ct_idle h j
    | some n =>
      simp only [ctStep]
      rw [if_neg (h n (List.mem_of_getElem? hs))]
      exact ct_idle h j
theorem idle_all {L : List Support} {C : List Crew} {P S : List Int} : ∀ x ∈ idleV L C P S, cttB L C P S x = true ∧ cttV L C P S x = 0 := by
  intro x hx
  unfold idleV at hx
  split at hx
  · rename_i ha
    simp only [idleUp, List.mem_filter, List.mem_map, List.mem_range, Bool.not_eq_true', List.any_eq_false, beq_iff_eq] at hx
    obtain ⟨⟨k, hk, rfl⟩, hx⟩ := hx
    have hb : cttB L C P S (k : Int) = true := by
      simp only [cttB, ha, Bool.true_and]
      exact inB_iff.2 ⟨by omega, by omega⟩
    refine ⟨hb, ?_⟩
    rw [cttV, if_pos hb, Int.toNat_natCast, crewT]
    cases hc : C[k]? with
    | none => rfl
    | some c => exact ct_idle hx _
  · cases hx
theorem evt_n {n : Nat} {t : Int} (L : List Support) (C : List Crew) (P S : List Int) (hn : S.length = n) (ha : asB L C P S = true) (ht : timeV L C P S = t) (A0 A1 A2 A3 : Option Addr) (c0 c1 c2 c3 : Nat) (w : World) (r0 : Rd Support.enc 3 w.heap.size w A0 L) (ok0 : ∀ c ∈ L, c.Ok) (l0 : L.length ≤ maxLen) (r1 : Rd Crew.enc 3 w.heap.size w A1 C) (l1 : C.length ≤ maxLen) (r2 : Rd encI 1 w.heap.size w A2 P) (l2 : P.length ≤ maxLen) (r3 : Rd encI 1 w.heap.size w A3 S) (l3 : S.length ≤ maxLen) :
    Calls Try.prog 21 #[.slice A0 L.length c0, .slice A1 C.length c1, .slice A2 P.length c2, .slice A3 n c3] w fun e w' => e = .returned (.tuple #[.int .i64 t, .bool true]) ∧ Below w.heap.size w w' := by
  subst hn; subst ht
  have := EvacuationTime_any L C P S A0 A1 A2 A3 c0 c1 c2 c3 w r0 ok0 l0 r1 l1 r2 l2 r3 l3
  rwa [ha] at this
end Go.Proofs.Ytgfamaopplgfgaa
