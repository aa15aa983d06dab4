/- The comparison of two rows of numbers: slices.Compare at []int, and the closure that InspectionPlan sorts by. -/
import Derived.Test.YtknondhdhjegbaaInts
import Derived.Test.YtknondhdhjegbaaCmp
namespace Go.Proofs.Ytknondhdhjegbaa
open Go Go.RowKit
set_option linter.unusedVariables false
def cmpL : List Int → List Int → Int
  | [], [] => 0
  | [], _ :: _ => -1
  | _ :: _, [] => 1
  | a :: r, b :: t => if cmpI a b = 0 then cmpL r t else cmpI a b
theorem cmpL_step {L M : List Int} {k : Nat} (hL : k < L.length) (hM : k < M.length) : cmpL (L.drop k) (M.drop k) = if cmpI L[k] M[k] = 0 then cmpL (L.drop (k + 1)) (M.drop (k + 1)) else cmpI L[k] M[k] := by
  rw [List.drop_eq_getElem_cons hL, List.drop_eq_getElem_cons hM, cmpL]
theorem cmpL_long {L M : List Int} {k : Nat} (hL : k < L.length) (hM : M.length ≤ k) : cmpL (L.drop k) (M.drop k) = 1 := by
  rw [List.drop_eq_getElem_cons hL, List.drop_eq_nil_of_le hM, cmpL]
theorem cmpL_end {L M : List Int} (h : L.length ≤ M.length) : cmpL (L.drop L.length) (M.drop L.length) = if L.length < M.length then -1 else 0 := by
  rw [List.drop_length]
  by_cases hlt : L.length < M.length
  · rw [List.drop_eq_getElem_cons hlt, cmpL, if_pos hlt]
  · rw [List.drop_eq_nil_of_le (by omega), cmpL, if_neg hlt]
set_option maxRecDepth 100000 in
set_option maxHeartbeats 2000000 in
theorem CompareS_any (L M : List Int) (A B : Option Addr) (ca cb : Nat) (w : World) (hl : L.length ≤ 1000000) (hm : M.length ≤ 1000000) (ha : Rd encI 1 w.heap.size w A L) (hb : Rd encI 1 w.heap.size w B M) :
    Calls Try.prog 76 #[.slice A L.length ca, .slice B M.length cb] w fun e w' => e = .returned (.int .i64 (cmpL L M)) ∧ w = w' := by
  go_enter Try.func76, Try.ntmps76
  go_wp2_with fail
  go_loop [11] (fun i => ∃ k : Nat, k ≤ L.length ∧ k ≤ M.length ∧ i = .int .i64 k ∧ Hid (cmpL L M = cmpL (L.drop k) (M.drop k))) (fun i => L.length - (intOf i).toNat)
  case atStart => exact ⟨0, Nat.zero_le _, Nat.zero_le _, rfl, hide rfl⟩
  case round =>
    obtain ⟨k, hk, hkm, rfl, HE⟩ := hrel
    by_cases hlt : k < L.length
    · have hki : (k : Int) < (L.length : Int) := by omega
      obtain ⟨b1, o1, rfl, _, hc1⟩ := rd_int ha (by intro h; rw [h] at hlt; simp at hlt)
      have y1 := hc1 k _ (List.getElem?_eq_getElem hlt)
      by_cases hltm : k < M.length
      · have hkmi : ¬ (M.length : Int) ≤ (k : Int) := by omega
        have hkmj : (k : Int) < (M.length : Int) := by omega
        obtain ⟨b2, o2, rfl, _, hc2⟩ := rd_int hb (by intro h; rw [h] at hltm; simp at hltm)
        have y2 := hc2 k _ (List.getElem?_eq_getElem hltm)
        have HS := hide (cmpL_step hlt hltm)
        generalize L[k] = x at *
        generalize M[k] = z at *
        clear hc1 hc2
        obtain ⟨q, hq⟩ : ∃ q, q = cmpI x z := ⟨_, rfl⟩
        rw [← hq] at HS
        have HQ := hide hq; clear hq
        by_cases h0 : q = 0
        · have hb0 : (q == 0) = true := by simpa using h0
          have HR := hide (HS.out.trans (if_pos h0)); clear h0
          go_wp2_with (go_at_call 80; refine (Compare_any _ _ _).mono ?_; rintro e w1 ⟨rfl, rfl⟩; rw [← HQ.out])
          go_round
          case rel => exact ⟨k + 1, by omega, by omega, by go_num, hide (HE.out.trans HR.out)⟩
          case measure => simp [intOf] <;> omega
        · have hb0 : (q == 0) = false := by simpa using h0
          have HR := hide (HE.out.trans (HS.out.trans (if_neg h0))); clear h0
          go_wp2_with (go_at_call 80; refine (Compare_any _ _ _).mono ?_; rintro e w1 ⟨rfl, rfl⟩; rw [← HQ.out])
          go_ret
          exact ⟨ret_int HR.out.symm, rfl⟩
      · have hkmi : (M.length : Int) ≤ (k : Int) := by omega
        have HR := hide (HE.out.trans (cmpL_long hlt (by omega)))
        go_wp2_with fail
        go_ret
        exact ⟨ret_int HR.out.symm, rfl⟩
    · have hki : ¬ (k : Int) < (L.length : Int) := by omega
      obtain rfl : k = L.length := by omega
      have HR := hide (HE.out.trans (cmpL_end hkm)); clear HE
      by_cases hlm : L.length < M.length
      · have hli : (L.length : Int) < (M.length : Int) := by omega
        go_wp2_with fail
        go_ret
        exact ⟨ret_int (by rw [HR.out, if_pos hlm]), rfl⟩
      · have hli : ¬ (L.length : Int) < (M.length : Int) := by omega
        go_wp2_with fail
        go_ret
        exact ⟨ret_int (by rw [HR.out, if_neg hlm]), rfl⟩
theorem inspCmp_any (L M : List Int) (A B : Option Addr) (ca cb : Nat) (w : World) (hl : L.length ≤ 1000000) (hm : M.length ≤ 1000000) (ha : Rd encI 1 w.heap.size w A L) (hb : Rd encI 1 w.heap.size w B M) :
    Calls Try.prog 75 #[.slice A L.length ca, .slice B M.length cb] w fun e w' => e = .returned (.int .i64 (cmpL L M)) ∧ w = w' := by
  go_enter Try.func75, Try.ntmps75
  go_wp2_with (go_at_call 76; refine (CompareS_any L M _ _ _ _ _ hl hm ha hb).mono ?_; rintro e w1 ⟨rfl, rfl⟩)
  go_ret
  exact ⟨rfl, rfl⟩
/- the comparison is a total order on rows -/
theorem cmpL_self : ∀ L : List Int, cmpL L L = 0
  | [] => rfl
  | a :: r => by rw [cmpL, if_pos (cmpI_zero.2 rfl), cmpL_self r]
theorem cmpL_eq : ∀ {L M : List Int}, cmpL L M = 0 → L = M
  | [], [], _ => rfl
  | [], _ :: _, h => by simp [cmpL] at h
  | _ :: _, [], h => by simp [cmpL] at h
  | a :: r, b :: t, h => by
    rw [cmpL] at h
    split at h
    · rename_i h0
      rw [cmpI_zero.1 h0, cmpL_eq h]
    · rename_i h0
      exact absurd h h0
theorem cmpL_two (a b c d : Int) : cmpL [a, b] [c, d] < 0 ↔ a < c ∨ a = c ∧ b < d := by
  simp only [cmpL]
  have h1 := cmpI_zero (a := a) (b := c); have h2 := cmpI_zero (a := b) (b := d)
  have h3 := cmpI_neg (a := a) (b := c); have h4 := cmpI_neg (a := b) (b := d)
  split
  · split <;> omega
  · omega
end Go.Proofs.Ytknondhdhjegbaa
