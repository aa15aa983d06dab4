/- The nearest crew, the sum and the fullest span: what the law FnRescues asks. -/
import Derived.Test.YtgfamaopplgfgaaNear
import Derived.Test.YtgfamaopplgfgaaPeople
import Derived.Test.YtgfamaopplgfgaaDrawX19
namespace Go.Proofs.Ytgfamaopplgfgaa
open Go Go.RowKit
set_option linter.unusedVariables false
theorem near_least {L : List Support} {C : List Crew} {P : List Int} (hg : goodR L C P = true) (s : Nat) : ∀ k, 1 ≤ k → k ≤ C.length →
    (nearUp L C P s k).1 < k ∧ (∃ c, C[(nearUp L C P s k).1]? = some c ∧ (nearUp L C P s k).2 = spanS L c P c.support.toNat s) ∧ ∀ (j : Nat) (c : Crew), j < k → C[j]? = some c → (nearUp L C P s k).2 ≤ spanS L c P c.support.toNat s
  | 0, h, _ => by omega
  | k + 1, _, hk => by
    have hgc := List.getElem?_eq_getElem (show k < C.length by omega)
    generalize C[k]'(by omega) = c at hgc
    rw [near_step hgc]
    have hz : nearUp L C P s k = ((nearUp L C P s k).1, (nearUp L C P s k).2) := rfl
    by_cases h0 : k = 0
    · subst h0
      rw [near_yes (z := nearUp L C P s 0) (b := 0) (l := -1) rfl rfl (.inl (by omega))]
      refine ⟨by omega, ⟨c, hgc, rfl⟩, fun j d hj hd => ?_⟩
      obtain rfl : j = 0 := by omega
      rw [hgc] at hd; injection hd with hd; rw [hd]; exact Int.le_refl _
    · obtain ⟨i1, ⟨d, i2, i3⟩, i4⟩ := near_least hg s k (by omega) (by omega)
      have hb := (spanS_bd hg i2 d.support.toNat s).1
      by_cases hl : spanS L c P c.support.toNat s < (nearUp L C P s k).2
      · rw [near_yes hz rfl (.inr hl)]
        refine ⟨by omega, ⟨c, hgc, rfl⟩, fun j e hj he => ?_⟩
        rcases Nat.lt_or_eq_of_le (Nat.lt_succ_iff.1 hj) with h3 | h3
        · have := i4 j e h3 he; show spanS L c P c.support.toNat s ≤ _; omega
        · subst h3; rw [hgc] at he; injection he with he; rw [he]; exact Int.le_refl _
      · rw [near_no hz rfl (by omega)]
        refine ⟨by omega, ⟨d, i2, i3⟩, fun j e hj he => ?_⟩
        rcases Nat.lt_or_eq_of_le (Nat.lt_succ_iff.1 hj) with h3 | h3
        · exact i4 j e h3 he
        · subst h3; rw [hgc] at he; injection he with he; rw [← he]; show (nearUp L C P s j).2 ≤ _; omega
theorem askS_of {L : List Support} {C : List Crew} {P : List Int} {x : Int} {k : Nat} {c : Crew} (h : nearB L C P x = true) (hc : C[k]? = some c) : askS L C P k c.support x = true := by
  simp only [nearB, Bool.and_eq_true] at h
  obtain ⟨⟨c0, c1⟩, _⟩ := goodR_crew h.1 hc
  have hk := (List.getElem?_eq_some_iff.1 hc).1
  simp only [askS, Bool.and_eq_true]
  exact ⟨h.1, inB_iff.2 ⟨by omega, by omega⟩, inB_iff.2 ⟨c0, by omega⟩, h.2⟩
theorem spanV_of {L : List Support} {C : List Crew} {P : List Int} {x : Int} {k : Nat} {c : Crew} (h : nearB L C P x = true) (hc : C[k]? = some c) : spanV L C P k c.support x = spanS L c P c.support.toNat x.toNat := by
  rw [spanV, if_pos (askS_of h hc)]
  simp only [Int.toNat_natCast, hc]
theorem spanW_of {L : List Support} {C : List Crew} {P : List Int} {x : Int} {k : Nat} {c : Crew} (h : nearB L C P x = true) (hc : C[k]? = some c) : spanW L C P k c.support x = x ∨ spanW L C P k c.support x = x + 1 := by
  have h2 := h
  simp only [nearB, Bool.and_eq_true] at h2
  have := (inB_iff.1 h2.2).1
  rw [spanW, if_pos (askS_of h hc), spanN]
  split
  · right; omega
  · left; omega
theorem near_all {L : List Support} {C : List Crew} {P : List Int} {x : Int} (h : nearB L C P x = true) : ∃ (k : Nat) (c : Crew), nearV L C P x = k ∧ C[k]? = some c ∧ ∀ (j : Nat) (d : Crew), C[j]? = some d → spanV L C P k c.support x ≤ spanV L C P j d.support x := by
  have h2 := h
  simp only [nearB, Bool.and_eq_true] at h2
  obtain ⟨_, ⟨hc1, _⟩, _⟩ := goodR_len h2.1
  obtain ⟨i1, ⟨c, i2, i3⟩, i4⟩ := near_least h2.1 x.toNat C.length hc1 (Nat.le_refl _)
  refine ⟨_, c, by rw [nearV, if_pos h], i2, fun j d hd => ?_⟩
  rw [spanV_of h i2, spanV_of h hd, ← i3]
  exact i4 j d (List.getElem?_eq_some_iff.1 hd).1 hd
theorem sum_le {P : List Int} {m : Int} : (∀ j, j < P.length → P.getD j 0 ≤ m) → P.sum ≤ P.length * m := by
  intro h
  have g : ∀ k, k ≤ P.length → (P.take k).sum ≤ k * m := by
    intro k
    induction k with
    | zero => intro _; simp
    | succ k ih =>
      intro hk
      have hg := List.getElem?_eq_getElem (show k < P.length by omega)
      have := ih (by omega)
      have h1 := h k (by omega)
      rw [sum_step hg]
      simp only [List.getD, hg, Option.getD_some] at h1
      have e : ((k + 1 : Nat) : Int) * m = k * m + m := by rw [Int.natCast_add, Int.add_mul]; simp
      omega
  have := g P.length (Nat.le_refl _)
  rwa [List.take_length] at this
theorem full_all {L : List Support} {P : List Int} (h : goodP L P = true) : ∃ (k : Nat) (n : Int), fullV L P = k ∧ P[k]? = some n ∧ upV L P = P.sum ∧ 0 ≤ n ∧ n ≤ 60 ∧ P.sum ≤ n * P.length := by
  obtain ⟨l1, l2, _⟩ := goodP_len h
  have hlt := fullUp_lt P P.length l1
  have hg := List.getElem?_eq_getElem hlt
  refine ⟨_, _, by rw [fullV, if_pos h], hg, by rw [upV, if_pos h], (goodP_bd h hg).1, (goodP_bd h hg).2, ?_⟩
  rw [Int.mul_comm]
  refine sum_le fun j hj => ?_
  have := (fullUp_best P P.length j hj).1
  simpa [List.getD, hg] using this
set_option maxHeartbeats 1000000 in
theorem vSum_any (P : List Int) (A : Option Addr) (cap : Nat) (w : World) (hl : P.length ≤ maxLen) (hr : Rd encI 1 w.heap.size w A P) (hb : ∀ k, k ≤ P.length → -1000000000 ≤ (P.take k).sum ∧ (P.take k).sum ≤ 1000000000) :
    Calls Try.prog 52 #[.slice A P.length cap] w fun e w' => e = .returned (.int .i64 P.sum) ∧ w = w' := by
  have HB := hide hb; clear hb
  unfold maxLen at hl
  go_enter Try.func52, Try.ntmps52
  go_wp2_with fail
  go_loop [3, 4] (fun s i => ∃ k : Nat, k ≤ P.length ∧ i = .int .i64 k ∧ s = .int .i64 (P.take k).sum) (fun _ i => P.length - (intOf i).toNat)
  case atStart => exact ⟨0, Nat.zero_le _, rfl, by simp⟩
  case round =>
    obtain ⟨k, hk, rfl, rfl⟩ := hrel
    obtain ⟨b0, b1⟩ := HB.out k hk
    by_cases hlt : k < P.length
    · obtain ⟨b, o, rfl, _, hc⟩ := rd_int hr (by intro h; subst h; simp at hlt)
      have hg := List.getElem?_eq_getElem hlt
      have y := hc k _ hg
      obtain ⟨d0, d1⟩ := HB.out (k + 1) hlt
      have HS := hide (sum_step hg)
      rw [sum_step hg] at d0 d1
      generalize P[k] = n at *
      clear hc hg
      go_wp2_with fail
      go_round
      case rel => exact ⟨k + 1, by omega, by go_num, by rw [HS.out]⟩
      case measure => simp [intOf]; omega
    · have hkz : k = P.length := by omega
      go_wp2_with fail
      go_ret
      exact ⟨ret_int (by first | rfl | (rw [hkz, List.take_length])), rfl⟩
theorem vBig_any (n : Nat) (A : Option Addr) (cap : Nat) (w : World) (hn : n ≤ maxLen) : Calls Try.prog 14 #[.slice A n cap] w fun e w' => e = .returned (.bool (decide ((65536 : Int) < n))) ∧ w = w' := by
  unfold maxLen at hn
  go_enter Try.func14, Try.ntmps14
  go_wp2_with fail
  go_ret
  exact ⟨rfl, rfl⟩
end Go.Proofs.Ytgfamaopplgfgaa
