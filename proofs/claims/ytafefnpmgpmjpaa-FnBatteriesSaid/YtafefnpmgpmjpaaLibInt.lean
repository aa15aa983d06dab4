/- The library's Index, Contains and Max at slices of numbers, and the reference's l1Has: each walked once. -/
import Derived.Test.YtafefnpmgpmjpaaMark
namespace Go.Proofs.Ytafefnpmgpmjpaa
open Go Go.RowKit
set_option linter.unusedVariables false
theorem any_no {l : List Int} {v : Int} {k : Nat} (h : l.length ≤ k) (hn : ∀ (j : Nat) (d : Int), j < k → l[j]? = some d → (d == v) = false) : l.any (fun d => d == v) = false := by
  rw [List.any_eq_false]
  intro x hx
  obtain ⟨j, hj, rfl⟩ := List.mem_iff_getElem.1 hx
  simpa using hn j _ (by omega) (List.getElem?_eq_getElem hj)
theorem any_hit {l : List Int} {v d : Int} {k : Nat} (h : l[k]? = some d) (hd : (d == v) = true) : l.any (fun d => d == v) = true := List.any_eq_true.2 ⟨d, List.mem_of_getElem? h, hd⟩
/- the place of the greatest number, the first of them -/
def fullUp (P : List Int) : Nat → Nat
  | 0 => 0
  | k + 1 => if P.getD (fullUp P k) 0 < P.getD k 0 then k else fullUp P k
theorem fullUp_one (P : List Int) : fullUp P 1 = 0 := by simp [fullUp]
theorem fullUp_lt (P : List Int) : ∀ k, 1 ≤ k → fullUp P k < k
  | 0, h => by omega
  | k + 1, _ => by
    unfold fullUp
    split
    · omega
    · rcases Nat.eq_zero_or_pos k with rfl | h
      · simp [fullUp]
      · have := fullUp_lt P k h; omega
theorem fullUp_best (P : List Int) : ∀ k, ∀ j, j < k → P.getD j 0 ≤ P.getD (fullUp P k) 0 ∧ (j < fullUp P k → P.getD j 0 < P.getD (fullUp P k) 0)
  | 0, j, h => by omega
  | k + 1, j, h => by
    unfold fullUp
    rcases Nat.lt_or_eq_of_le (Nat.lt_succ_iff.1 h) with h1 | rfl
    · have ih := fullUp_best P k j h1
      split
      · omega
      · exact ih
    · split
      · omega
      · rename_i hn
        refine ⟨by omega, fun h2 => ?_⟩
        rcases Nat.eq_zero_or_pos j with rfl | hj
        · simp [fullUp] at h2
        · have := fullUp_lt P j hj; omega
theorem full_idx {P : List Int} (h : 1 ≤ P.length) : idxF (fun d => d == P.getD (fullUp P P.length) 0) P = (fullUp P P.length : Nat) := by
  have hlt := fullUp_lt P P.length h
  refine idxF_hit (c := P[fullUp P P.length]) (List.getElem?_eq_getElem hlt) (by simp [List.getD, List.getElem?_eq_getElem hlt]) (fun j d hj hd => ?_)
  have := (fullUp_best P P.length j (by omega)).2 hj
  simp only [List.getD, hd, Option.getD_some] at this
  simp
  rw [List.getElem?_eq_getElem hlt] at *
  simp at this ⊢
  omega
set_option maxHeartbeats 400000 in
theorem MaxI_any (P : List Int) (A : Option Addr) (cap : Nat) (w : World) (hr : Rd encI 1 w.heap.size w A P) (h1 : 1 ≤ P.length) (hl : P.length ≤ 1000000) :
    Calls Try.prog 64 #[.slice A P.length cap] w fun e w' => e = .returned (.int .i64 (P.getD (fullUp P P.length) 0)) ∧ w = w' := by
  obtain ⟨b, o, rfl, _, hc⟩ := rd_int hr (by intro h; rw [h] at h1; simp at h1)
  have g0 := hc 0 _ (List.getElem?_eq_getElem (show 0 < P.length by omega))
  have H0 := hide (show P.getD (fullUp P 1) 0 = P[0] by rw [fullUp_one]; simp [List.getD, List.getElem?_eq_getElem (show 0 < P.length by omega)])
  rw [Nat.add_zero] at g0
  have h1' : (1 : Int) ≤ (P.length : Int) := by omega
  generalize P[0] = p0 at *
  go_enter Try.func64, Try.ntmps64
  go_wp2_with fail
  go_loop [4, 3] (fun i m => ∃ k : Nat, 1 ≤ k ∧ k ≤ P.length ∧ i = .int .i64 k ∧ m = .int .i64 (P.getD (fullUp P k) 0)) (fun i _ => P.length - (intOf i).toNat)
  case atStart => exact ⟨1, Nat.le_refl _, h1, rfl, by rw [H0.out]⟩
  case round =>
    clear g0 H0
    obtain ⟨k, hk1, hk, rfl, rfl⟩ := hrel
    by_cases hlt : k < P.length
    · have hg := List.getElem?_eq_getElem hlt
      have c0 := hc k _ hg
      have HS := hide (show P.getD (fullUp P (k + 1)) 0 = max (P.getD (fullUp P k) 0) P[k] by
        have : P.getD k 0 = P[k] := by simp [List.getD, hg]
        rw [← this]
        simp only [fullUp]
        split <;> omega)
      generalize P.getD (fullUp P k) 0 = m at *
      generalize P[k] = n at *
      clear hc hg hr
      have hki : (k : Int) < (P.length : Int) := by omega
      by_cases hmn : m < n
      · go_wp2_with fail
        go_round
        case rel => exact ⟨k + 1, by omega, by omega, by go_num, by rw [HS.out] <;> first | rfl | (congr 1; omega)⟩
        case measure => simp [intOf]; omega
      · go_wp2_with fail
        go_round
        case rel => exact ⟨k + 1, by omega, by omega, by go_num, by rw [HS.out] <;> first | rfl | (congr 1; omega)⟩
        case measure => simp [intOf]; omega
    · obtain rfl : k = P.length := by omega
      go_wp2_with fail
      go_ret
      exact ⟨rfl, rfl⟩
end Go.Proofs.Ytafefnpmgpmjpaa
